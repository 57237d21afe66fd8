/- The layer 'check': the rules whose arguments are checked against a list. -/
import Derived.Test.YtkoachnlimebaaaGreatDoorCT12
set_option linter.unusedSimpArgs false
set_option linter.unusedVariables false
set_option maxRecDepth 20000
set_option maxHeartbeats 4000000
namespace Go.Proofs.YtkoachnlimebaaaGreatDoor
open Go.AL

/-- Destructors have a result. -/
def EndX (ds : List DeclG) : Prop := ∀ d ∈ ds, d.codata = true → ∀ x ∈ d.xtors, x.args ≠ []
theorem typeK_no {ds : List DeclG} {fs : List FunG} {E K : Bytes → Option Int} {t : TermG} (hc : t.cls = []) : typeK ds fs E K t =
    match typeA ds fs E K t.op t.name t.ty 0 t.args with
    | .error q => .deep q
    | .ok l => match ruleT ds fs E K t l with
      | some r => .good r
      | none => .bad := by
  rw [typeK, hc]
  cases typeA ds fs E K t.op t.name t.ty 0 t.args with
  | error q => rfl
  | ok l => simp only [typeC, List.append_nil]; cases ruleT ds fs E K t l <;> rfl
theorem validA_mem {ds : List DeclG} {pf : List Nat} {V L : Bytes → Bool} {t : TermG} (h8 : t.op ≠ 8) (h11 : t.op ≠ 11) (h : validT ds pf V L t = true) : ∀ a ∈ t.args, validT ds pf V L a = true := by
  rw [validT_eq, Bool.and_eq_true, Bool.and_eq_true, validA_all h8 h11, List.all_eq_true] at h
  exact h.2.1
theorem valid_node {ds : List DeclG} {pf : List Nat} {V L : Bytes → Bool} {t : TermG} (h : validT ds pf V L t = true) : nodeB ds pf V L t = true := by
  rw [validT_eq, Bool.and_eq_true] at h; exact h.1
theorem node_nocls {ds : List DeclG} {pf : List Nat} {V L : Bytes → Bool} {t : TermG} (h5 : t.op ≠ 5) (h7 : t.op ≠ 7) (h : nodeB ds pf V L t = true) : t.cls = [] := by
  by_cases hc : t.cls.length = 0
  · exact List.eq_nil_of_length_eq_zero hc
  · rw [node_cls h5 h7 hc] at h; cases h
/-- What a rule may rely on. -/
structure RulePre (p : ProgG) (N : Nat) (t : TermG) (l : List EntG) (E K : Bytes → Option Int) (at_ : List Int) : Prop where
  hv : TypC p N
  hN : ∀ a ∈ t.args, nodesT a ≤ N
  hC : ∀ c ∈ t.cls, nodesT c.body ≤ N
  he : EnvOk l E K
  hva : validT p.ds p.pf (domB E) (domB K) t = true
  hat : at_.length + depthT t ≤ 30
  hsm : SmallX p.ds
  hdl : p.ds.length ≤ 8
  hend : EndX p.ds
  hfp : ∀ f ∈ p.fs, f.params.length ≤ 6
  hx1 : ∀ d ∈ p.ds, d.xtors ≠ []
section
variable {p : ProgG} {N : Nat} {hp : Hp} {cb : Nat} {path0 : AV} {t : TermG} {l : List EntG} {E K : Bytes → Option Int} {h : Value} {at_ : List Int}
theorem rulR_if {n : Int} {c : Prop} [Decidable c] {k : RR} (hK : k = if c then .good n else .bad) : RulR p cb hp path0 at_ k (.tup [.v (.int .i64 n), .v (.bool (decide c))]) (CkHp hp cb p path0 false) := by
  subst hK
  by_cases hc : c
  · rw [if_pos hc, decide_eq_true hc]; exact ⟨rfl, rfl⟩
  · rw [if_neg hc, decide_eq_false hc]; exact ⟨n, rfl, rfl⟩
theorem name_rule (pre : RulePre p N t l E K at_) (ho : t.op = 0) :
    ACalls Tryz.prog 190 [ptr0 cb, envAV l, t.av, intsAV h at_] (CkHp hp cb p path0 false) (RulR p cb hp path0 at_ (typeK p.ds p.fs E K t)) := by
  obtain ⟨hv, hN, hC, he, hva, hat, hsm, hdl, hend, hfp, hx1⟩ := pre
  have hn := valid_node hva
  have hc := node_nocls (by rw [ho]; decide) (by rw [ho]; decide) hn
  rw [node_0 ho (by rw [hc]; rfl), Bool.and_eq_true] at hn
  have ha : t.args = [] := List.eq_nil_of_length_eq_zero (by have := fields_len hn.1; omega)
  obtain ⟨n, hE⟩ := Option.isSome_iff_exists.1 (show (E t.name).isSome = true from hn.2)
  have hK : typeK p.ds p.fs E K t = .good n := by
    rw [typeK_no hc, ha, typeA_nil]
    simp [ruleT, ho, hE]
  refine acalls_of Tryz.func190 rfl (by decide +kernel) (awp_sound (mu := []) _ _ _ ?_)
  simp only [go_sem, Nat.reduceEqDiff, Nat.reduceAdd, Nat.reduceSub, Nat.reduceLT, Nat.reduceMul, Nat.reduceBEq, Nat.reduceLeDiff, ↓reduceIte, Int.reduceToNat, Nat.reduceGT, Int.reduceLE, Int.reduceLT, Int.reduceGE, Int.reduceGT, Int.reduceEq, Int.reduceNe, reduceCtorEq, TermG.av, TermG.cs_eq]
  intro q1
  refine callX_by (find_calls l t.name false _) ?_
  rintro r hp1 ⟨rfl, rfl⟩
  simp only [go_sem, Nat.reduceEqDiff, Nat.reduceAdd, Nat.reduceSub, Nat.reduceLT, Nat.reduceMul, Nat.reduceBEq, Nat.reduceLeDiff, ↓reduceIte, Int.reduceToNat, Nat.reduceGT, Int.reduceLE, Int.reduceLT, Int.reduceGE, Int.reduceGT, Int.reduceEq, Int.reduceNe, reduceCtorEq, he.v, hE]
  exact ret_same (by rw [hK]; exact ⟨rfl, rfl⟩)
theorem number_rule (pre : RulePre p N t l E K at_) (ho : t.op = 1) :
    ACalls Tryz.prog 191 [ptr0 cb, envAV l, t.av, intsAV h at_] (CkHp hp cb p path0 false) (RulR p cb hp path0 at_ (typeK p.ds p.fs E K t)) := by
  obtain ⟨hv, hN, hC, he, hva, hat, hsm, hdl, hend, hfp, hx1⟩ := pre
  have hn := valid_node hva
  have hc := node_nocls (by rw [ho]; decide) (by rw [ho]; decide) hn
  rw [node_1 ho (by rw [hc]; rfl)] at hn
  have ha : t.args = [] := List.eq_nil_of_length_eq_zero (by have := fields_len hn; omega)
  have hK : typeK p.ds p.fs E K t = .good 0 := by
    rw [typeK_no hc, ha, typeA_nil]
    simp [ruleT, ho]
  refine acalls_of Tryz.func191 rfl (by decide +kernel) (awp_sound (mu := []) _ _ _ ?_)
  simp only [go_sem, Nat.reduceEqDiff, Nat.reduceAdd, Nat.reduceSub, Nat.reduceLT, Nat.reduceMul, Nat.reduceBEq, Nat.reduceLeDiff, ↓reduceIte, Int.reduceToNat, Nat.reduceGT, Int.reduceLE, Int.reduceLT, Int.reduceGE, Int.reduceGT, Int.reduceEq, Int.reduceNe, reduceCtorEq, TermG.av, TermG.cs_eq]
  intro q1
  exact ret_same (by rw [hK]; exact ⟨rfl, rfl⟩)
theorem prim_rule (pre : RulePre p N t l E K at_) (ho : t.op = 2) :
    ACalls Tryz.prog 192 [ptr0 cb, envAV l, t.av, intsAV h at_] (CkHp hp cb p path0 false) (RulR p cb hp path0 at_ (typeK p.ds p.fs E K t)) := by
  obtain ⟨hv, hN, hC, he, hva, hat, hsm, hdl, hend, hfp, hx1⟩ := pre
  have hn := valid_node hva
  have hc := node_nocls (by rw [ho]; decide) (by rw [ho]; decide) hn
  rw [node_2 ho (by rw [hc]; rfl), Bool.and_eq_true] at hn
  have hal := fields_len hn.1
  have hK := typeK_no (ds := p.ds) (fs := p.fs) (E := E) (K := K) hc
  refine acalls_of Tryz.func192 rfl (by decide +kernel) (awp_sound (mu := []) _ _ _ ?_)
  simp only [go_sem, Nat.reduceEqDiff, Nat.reduceAdd, Nat.reduceSub, Nat.reduceLT, Nat.reduceMul, Nat.reduceBEq, Nat.reduceLeDiff, ↓reduceIte, Int.reduceToNat, Nat.reduceGT, Int.reduceLE, Int.reduceLT, Int.reduceGE, Int.reduceGT, Int.reduceEq, Int.reduceNe, reduceCtorEq, TermG.av, TermG.cs_eq]
  intro q1
  refine ⟨rfl, by simp, fun hd => ?_⟩
  have c := args_calls (hp := hp.setSp ((3, 1, hd) :: hp.sp)) (cb := cb) (path0 := path0) hv t (by rw [ho]; decide) (by rw [ho]; decide) hN he (validA_mem (by rw [ho]; decide) (by rw [ho]; decide) hva) h at_ hat hd [0, 0] (by simp; omega)
  simp only [TermG.av, TermG.cs_eq] at c
  refine callX_by c ?_
  clear c
  rintro r hp1 hR
  cases e : typeA p.ds p.fs E K t.op t.name t.ty 0 t.args with
  | ok got =>
    rw [e] at hR hK
    obtain ⟨rfl, rfl⟩ := hR
    simp only [go_sem, Nat.reduceEqDiff, Nat.reduceAdd, Nat.reduceSub, Nat.reduceLT, Nat.reduceMul, Nat.reduceBEq, Nat.reduceLeDiff, ↓reduceIte, Int.reduceToNat, Nat.reduceGT, Int.reduceLE, Int.reduceLT, Int.reduceGE, Int.reduceGT, Int.reduceEq, Int.reduceNe, reduceCtorEq]
    exact ret_le (ck_le _ _ _ _ _ (List.sublist_cons_self _ _)) (rulR_if (by rw [hK]; simp only [ruleT, ho]; by_cases hg : got = [0, 0] <;> simp [hg]))
  | error q =>
    rw [e] at hR hK
    obtain ⟨rfl, hq, rfl⟩ := hR
    simp only [go_sem, Nat.reduceEqDiff, Nat.reduceAdd, Nat.reduceSub, Nat.reduceLT, Nat.reduceMul, Nat.reduceBEq, Nat.reduceLeDiff, ↓reduceIte, Int.reduceToNat, Nat.reduceGT, Int.reduceLE, Int.reduceLT, Int.reduceGE, Int.reduceGT, Int.reduceEq, Int.reduceNe, reduceCtorEq]
    exact ret_le (ck_leE _ _ _ _ _ _ (List.sublist_cons_self _ _)) (by rw [hK]; exact ⟨0, hq, rfl, rfl⟩)
theorem con_rule (pre : RulePre p N t l E K at_) (ho : t.op = 4) :
    ACalls Tryz.prog 194 [ptr0 cb, envAV l, t.av, intsAV h at_] (CkHp hp cb p path0 false) (RulR p cb hp path0 at_ (typeK p.ds p.fs E K t)) := by
  obtain ⟨hv, hN, hC, he, hva, hat, hsm, hdl, hend, hfp, hx1⟩ := pre
  have hn := valid_node hva
  have hc := node_nocls (by rw [ho]; decide) (by rw [ho]; decide) hn
  have hK := typeK_no (ds := p.ds) (fs := p.fs) (E := E) (K := K) hc
  have hd1 : dataB p.ds t.ty false = true := by
    cases hd : dataB p.ds t.ty false with
    | true => rfl
    | false => rw [node_4d ho hd] at hn; cases hn
  have hh : hasN p.ds t.ty t.n = true := by
    cases hd : hasN p.ds t.ty t.n with
    | true => rfl
    | false => rw [node_4h ho hd] at hn; cases hn
  obtain ⟨ht1, ht2⟩ := data_ty hd1
  have hwt : IntKind.i64.wrap (t.ty - 1) = t.ty - 1 := IntWalk.i64_in _ (by omega)
  obtain ⟨d, hd⟩ := someAt p.ds (t.ty - 1).toNat (by omega)
  have hxs : xtorsOf p.ds t.ty = d.xtors := by simp only [xtorsOf, hd, Option.map_some, Option.getD_some]
  have hnn : 0 ≤ t.n ∧ t.n < d.xtors.length := by
    simp only [hasN, hxs, Bool.and_eq_true, decide_eq_true_eq] at hh; exact ⟨hh.1.2, hh.2⟩
  obtain ⟨x, hx⟩ := someAt d.xtors t.n.toNat (by omega)
  have hx' : (xtorsOf p.ds t.ty)[t.n.toNat]? = some x := by rw [hxs]; exact hx
  have hxl := hsm d (List.mem_of_getElem? hd) x (List.mem_of_getElem? hx)
  rw [node_4 ho (by rw [hc]; rfl) hx' hd1 hh] at hn
  have hal := fields_len hn
  have hxa : xtorAt p.ds t.ty t.n = x := by rw [xtorAt, hx']; rfl
  have hb := ck_blk hp cb p path0 false
  simp only [ckCs, declsAV] at hb
  refine acalls_of Tryz.func194 rfl (by decide +kernel) (awp_sound (mu := []) _ _ _ ?_)
  simp only [go_sem, Nat.reduceEqDiff, Nat.reduceAdd, Nat.reduceSub, Nat.reduceLT, Nat.reduceMul, Nat.reduceBEq, Nat.reduceLeDiff, ↓reduceIte, Int.reduceToNat, Nat.reduceGT, Int.reduceLE, Int.reduceLT, Int.reduceGE, Int.reduceGT, Int.reduceEq, Int.reduceNe, reduceCtorEq, TermG.av, TermG.cs_eq, ptr0]
  intro q1
  refine draw_by (mu := []) (fun h => ∃ pa f, h.blk cb = some (232, ckCs p cb pa f)) (.take 0 (.take 1 (.take 2 (.take 3 (.take 4 (.take 5 (.take 6 (.take 7 (.take 8 (.take 9 (.take 10 (.take 11 (.take 12 (.take 13 (.take 14 (.take 15 (.take 16 (.take 17 (.take 18 (.take 19 (.take 20 (.br 21 (.br 22 (.take 23 (.take 24 (.done))) (.stop)) (.stop))))))))))))))))))))))) (by decide +kernel) ⟨path0, false, ck_blk ..⟩ (by decide +kernel) (by decide +kernel) ?_
  simp only [go_sem, Nat.reduceEqDiff, Nat.reduceAdd, Nat.reduceSub, Nat.reduceLT, Nat.reduceMul, Nat.reduceBEq, Nat.reduceLeDiff, ↓reduceIte, Int.reduceToNat, Nat.reduceGT, Int.reduceLE, Int.reduceLT, Int.reduceGE, Int.reduceGT, Int.reduceEq, Int.reduceNe, reduceCtorEq, hb, hwt, mapAt DeclG.av _ _ _ hd, DeclG.av, DeclG.cs, mapAt XtorG.av _ _ _ hx, XtorG.av, XtorG.cs]
  refine ⟨fun h e => by obtain ⟨pa, f, e⟩ := e; rw [e]; simp only [go_sem, Nat.reduceEqDiff, Nat.reduceAdd, Nat.reduceSub, Nat.reduceLT, Nat.reduceMul, Nat.reduceBEq, Nat.reduceLeDiff, ↓reduceIte, Int.reduceToNat, Nat.reduceGT, Int.reduceLE, Int.reduceLT, Int.reduceGE, Int.reduceGT, Int.reduceEq, Int.reduceNe, reduceCtorEq, ckCs, declsAV], by omega, fun _ _ => by omega, hnn.1, fun _ _ => hnn.1, ?_⟩
  refine callX_by (cprods_calls x hxl _) ?_
  rintro r hp1 ⟨h31, rfl, rfl⟩
  refine ⟨⟨path0, false, ck_blk ..⟩, ?_⟩
  simp only [go_sem, Nat.reduceEqDiff, Nat.reduceAdd, Nat.reduceSub, Nat.reduceLT, Nat.reduceMul, Nat.reduceBEq, Nat.reduceLeDiff, ↓reduceIte, Int.reduceToNat, Nat.reduceGT, Int.reduceLE, Int.reduceLT, Int.reduceGE, Int.reduceGT, Int.reduceEq, Int.reduceNe, reduceCtorEq, ck_setSp]
  have c := args_calls (hp := hp.setSp ((3, 1, h31) :: hp.sp)) (cb := cb) (path0 := path0) hv t (by rw [ho]; decide) (by rw [ho]; decide) hN he (validA_mem (by rw [ho]; decide) (by rw [ho]; decide) hva) h at_ hat h31 (prodsX x) (by rw [prods_len]; omega)
  simp only [TermG.av, TermG.cs_eq] at c
  refine callX_by c ?_
  clear c
  rintro r hp1 hR
  cases e : typeA p.ds p.fs E K t.op t.name t.ty 0 t.args with
  | ok got =>
    rw [e] at hR hK
    obtain ⟨rfl, rfl⟩ := hR
    refine ⟨⟨_, _, ck_blk ..⟩, ?_⟩
    simp only [go_sem, Nat.reduceEqDiff, Nat.reduceAdd, Nat.reduceSub, Nat.reduceLT, Nat.reduceMul, Nat.reduceBEq, Nat.reduceLeDiff, ↓reduceIte, Int.reduceToNat, Nat.reduceGT, Int.reduceLE, Int.reduceLT, Int.reduceGE, Int.reduceGT, Int.reduceEq, Int.reduceNe, reduceCtorEq]
    exact ret_le (ck_le _ _ _ _ _ (List.sublist_cons_self _ _)) (rulR_if (by rw [hK]; simp only [ruleT, ho, hxa]; by_cases hg : got = prodsX x <;> simp [hg]))
  | error q =>
    rw [e] at hR hK
    obtain ⟨rfl, hq, rfl⟩ := hR
    refine ⟨⟨_, _, ck_blk ..⟩, ?_⟩
    simp only [go_sem, Nat.reduceEqDiff, Nat.reduceAdd, Nat.reduceSub, Nat.reduceLT, Nat.reduceMul, Nat.reduceBEq, Nat.reduceLeDiff, ↓reduceIte, Int.reduceToNat, Nat.reduceGT, Int.reduceLE, Int.reduceLT, Int.reduceGE, Int.reduceGT, Int.reduceEq, Int.reduceNe, reduceCtorEq]
    exact ret_le (ck_leE _ _ _ _ _ _ (List.sublist_cons_self _ _)) (by rw [hK]; exact ⟨t.ty, hq, rfl, rfl⟩)
theorem dtor_rule (pre : RulePre p N t l E K at_) (ho : t.op = 6) :
    ACalls Tryz.prog 196 [ptr0 cb, envAV l, t.av, intsAV h at_] (CkHp hp cb p path0 false) (RulR p cb hp path0 at_ (typeK p.ds p.fs E K t)) := by
  obtain ⟨hv, hN, hC, he, hva, hat, hsm, hdl, hend, hfp, hx1⟩ := pre
  have hn := valid_node hva
  have hc := node_nocls (by rw [ho]; decide) (by rw [ho]; decide) hn
  have hK := typeK_no (ds := p.ds) (fs := p.fs) (E := E) (K := K) hc
  have hd1 : dataB p.ds t.ty true = true := by
    cases hd : dataB p.ds t.ty true with
    | true => rfl
    | false => rw [node_6d ho hd] at hn; cases hn
  have hh : hasN p.ds t.ty t.n = true := by
    cases hd : hasN p.ds t.ty t.n with
    | true => rfl
    | false => rw [node_6h ho hd] at hn; cases hn
  obtain ⟨ht1, ht2⟩ := data_ty hd1
  have hwt : IntKind.i64.wrap (t.ty - 1) = t.ty - 1 := IntWalk.i64_in _ (by omega)
  obtain ⟨d, hd⟩ := someAt p.ds (t.ty - 1).toNat (by omega)
  have hxs : xtorsOf p.ds t.ty = d.xtors := by simp only [xtorsOf, hd, Option.map_some, Option.getD_some]
  have hnn : 0 ≤ t.n ∧ t.n < d.xtors.length := by
    simp only [hasN, hxs, Bool.and_eq_true, decide_eq_true_eq] at hh; exact ⟨hh.1.2, hh.2⟩
  obtain ⟨x, hx⟩ := someAt d.xtors t.n.toNat (by omega)
  have hx' : (xtorsOf p.ds t.ty)[t.n.toNat]? = some x := by rw [hxs]; exact hx
  have hxl := hsm d (List.mem_of_getElem? hd) x (List.mem_of_getElem? hx)
  rw [node_6 ho (by rw [hc]; rfl) hx' hd1 hh] at hn
  have hal := fields_len hn
  have hxa : xtorAt p.ds t.ty t.n = x := by rw [xtorAt, hx']; rfl
  have hb := ck_blk hp cb p path0 false
  simp only [ckCs, declsAV] at hb
  refine acalls_of Tryz.func196 rfl (by decide +kernel) (awp_sound (mu := []) _ _ _ ?_)
  simp only [go_sem, Nat.reduceEqDiff, Nat.reduceAdd, Nat.reduceSub, Nat.reduceLT, Nat.reduceMul, Nat.reduceBEq, Nat.reduceLeDiff, ↓reduceIte, Int.reduceToNat, Nat.reduceGT, Int.reduceLE, Int.reduceLT, Int.reduceGE, Int.reduceGT, Int.reduceEq, Int.reduceNe, reduceCtorEq, TermG.av, TermG.cs_eq, ptr0]
  intro q1
  refine draw_by (mu := []) (fun h => ∃ pa f, h.blk cb = some (232, ckCs p cb pa f)) (.take 0 (.take 1 (.take 2 (.take 3 (.take 4 (.take 5 (.take 6 (.take 7 (.take 8 (.take 9 (.take 10 (.take 11 (.take 12 (.take 13 (.take 14 (.take 16 (.take 17 (.br 15 (.br 18 (.br 19 (.take 20 (.done)) (.stop)) (.stop)) (.br 18 (.br 15 (.br 19 (.take 20 (.done)) (.stop)) (.stop)) (.stop)))))))))))))))))))) (by decide +kernel) ⟨path0, false, ck_blk ..⟩ (by decide +kernel) (by decide +kernel) ?_
  simp only [go_sem, Nat.reduceEqDiff, Nat.reduceAdd, Nat.reduceSub, Nat.reduceLT, Nat.reduceMul, Nat.reduceBEq, Nat.reduceLeDiff, ↓reduceIte, Int.reduceToNat, Nat.reduceGT, Int.reduceLE, Int.reduceLT, Int.reduceGE, Int.reduceGT, Int.reduceEq, Int.reduceNe, reduceCtorEq, hb, hwt, mapAt DeclG.av _ _ _ hd, DeclG.av, DeclG.cs, mapAt XtorG.av _ _ _ hx, XtorG.av, XtorG.cs]
  have hco : d.codata = true := by
    simp only [dataB, codataB, hd, Option.map_some, Option.getD_some, Bool.and_eq_true, beq_iff_eq] at hd1; exact hd1.2
  have hne := hend d (List.mem_of_getElem? hd) hco x (List.mem_of_getElem? hx)
  have hpn : prodN x ≤ 6 := Nat.le_trans (List.length_filter_le _ _) hxl
  refine ⟨fun h e => by obtain ⟨pa, f, e⟩ := e; rw [e]; simp only [go_sem, Nat.reduceEqDiff, Nat.reduceAdd, Nat.reduceSub, Nat.reduceLT, Nat.reduceMul, Nat.reduceBEq, Nat.reduceLeDiff, ↓reduceIte, Int.reduceToNat, Nat.reduceGT, Int.reduceLE, Int.reduceLT, Int.reduceGE, Int.reduceGT, Int.reduceEq, Int.reduceNe, reduceCtorEq, ckCs, declsAV], by omega, fun _ _ => by omega, hnn.1, fun _ _ => hnn.1, ?_⟩
  repeat' first
    | exact ⟨_, _, ck_blk ..⟩
    | exact ⟨path0, false, rfl⟩
    | (refine callX_by (cprods_calls x hxl _) ?_; rintro r hp1 ⟨h26, rfl, rfl⟩; try simp only [go_sem, Nat.reduceEqDiff, Nat.reduceAdd, Nat.reduceSub, Nat.reduceLT, Nat.reduceMul, Nat.reduceBEq, Nat.reduceLeDiff, ↓reduceIte, Int.reduceToNat, Nat.reduceGT, Int.reduceLE, Int.reduceLT, Int.reduceGE, Int.reduceGT, Int.reduceEq, Int.reduceNe, reduceCtorEq, ck_setSp])
    | (refine ⟨rfl, by simp, fun hd2 => ?_⟩; try simp only [go_sem, Nat.reduceEqDiff, Nat.reduceAdd, Nat.reduceSub, Nat.reduceLT, Nat.reduceMul, Nat.reduceBEq, Nat.reduceLeDiff, ↓reduceIte, Int.reduceToNat, Nat.reduceGT, Int.reduceLE, Int.reduceLT, Int.reduceGE, Int.reduceGT, Int.reduceEq, Int.reduceNe, reduceCtorEq, ck_setSp])
    | (with_reducible refine And.intro ?_ ?_)
  · refine append_by (a := intsAV h26 (prodsX x)) (b := .lst 1 hd2 [iv t.ty]) (l1 := [(3, 1, hd2)]) (l2 := hp.sp) (h := h26) (h2 := hd2) Tryz.k26 Tryz.s3 Tryz.y3 Tryz.z3 rfl (by decide)
      (by simp [go_sem, intsAV]) (Cast.refl _) (by simp [go_sem, iv]) (Cast.refl _) (by simp [go_sem, CkHp]) (by simp [go_sem, iv]) (by rw [List.length_map, prods_len]; simp [maxLen]; omega) (by rw [List.length_map, prods_len]; simp; omega) (by simp [go_sem]) (fun h30 => ?_)
    refine ⟨⟨path0, false, ck_blk ..⟩, ?_⟩
    simp only [go_sem, Nat.reduceEqDiff, Nat.reduceAdd, Nat.reduceSub, Nat.reduceLT, Nat.reduceMul, Nat.reduceBEq, Nat.reduceLeDiff, ↓reduceIte, Int.reduceToNat, Nat.reduceGT, Int.reduceLE, Int.reduceLT, Int.reduceGE, Int.reduceGT, Int.reduceEq, Int.reduceNe, reduceCtorEq, ck_setSp]
    refine draw_by (mu := []) (fun _ => True) (.take 0 (.take 1 (.take 2 (.take 3 (.take 5 (.take 6 (.take 7 (.take 8 (.take 9 (.br 4 (.br 10 (.take 11 (.take 12 (.done))) (.stop)) (.stop))))))))))) (by decide +kernel) trivial (by decide +kernel) (by decide +kernel) ?_
    simp only [go_sem, Nat.reduceEqDiff, Nat.reduceAdd, Nat.reduceSub, Nat.reduceLT, Nat.reduceMul, Nat.reduceBEq, Nat.reduceLeDiff, ↓reduceIte, Int.reduceToNat, Nat.reduceGT, Int.reduceLE, Int.reduceLT, Int.reduceGE, Int.reduceGT, Int.reduceEq, Int.reduceNe, reduceCtorEq]
    have en : ((t.n.toNat : Nat) : Int) = t.n := Int.toNat_of_nonneg hnn.1
    have c0 := result1_calls (p := p) (hp := hp.setSp ((3, 1, hd2) :: (3, 1, h30) :: hp.sp)) (cb := cb) (path := path0) (found := false) hsm hdl t ht1 ht2 t.n.toNat hx' hne
    rw [en] at c0
    simp only [TermG.av, TermG.cs_eq, ptr0] at c0
    refine callX_by c0 ?_
    rintro r hp1 ⟨rfl, rfl⟩
    simp only [go_sem, Nat.reduceEqDiff, Nat.reduceAdd, Nat.reduceSub, Nat.reduceLT, Nat.reduceMul, Nat.reduceBEq, Nat.reduceLeDiff, ↓reduceIte, Int.reduceToNat, Nat.reduceGT, Int.reduceLE, Int.reduceLT, Int.reduceGE, Int.reduceGT, Int.reduceEq, Int.reduceNe, reduceCtorEq]
    have c := args_calls (hp := hp.setSp ((3, 1, hd2) :: (3, 1, h30) :: hp.sp)) (cb := cb) (path0 := path0) hv t (by rw [ho]; decide) (by rw [ho]; decide) hN he (validA_mem (by rw [ho]; decide) (by rw [ho]; decide) hva) h at_ hat h30 (prodsX x ++ [t.ty]) (by rw [List.length_append, prods_len]; simp; omega)
    simp only [TermG.av, TermG.cs_eq, ptr0, intsAV, List.map_append, List.map_cons, List.map_nil] at c
    refine callX_by c ?_
    clear c
    rintro r hp1 hR
    cases e : typeA p.ds p.fs E K t.op t.name t.ty 0 t.args with
    | ok got =>
      rw [e] at hR hK
      obtain ⟨rfl, rfl⟩ := hR
      simp only [go_sem, Nat.reduceEqDiff, Nat.reduceAdd, Nat.reduceSub, Nat.reduceLT, Nat.reduceMul, Nat.reduceBEq, Nat.reduceLeDiff, ↓reduceIte, Int.reduceToNat, Nat.reduceGT, Int.reduceLE, Int.reduceLT, Int.reduceGE, Int.reduceGT, Int.reduceEq, Int.reduceNe, reduceCtorEq]
      exact ret_le (ck_le _ _ _ _ _ ((List.sublist_cons_self _ _).trans (List.sublist_cons_self _ _))) (rulR_if (by rw [hK]; simp only [ruleT, ho, hxa]; by_cases hg : got = prodsX x ++ [t.ty] <;> simp [hg]))
    | error q =>
      rw [e] at hR hK
      obtain ⟨rfl, hq, rfl⟩ := hR
      simp only [go_sem, Nat.reduceEqDiff, Nat.reduceAdd, Nat.reduceSub, Nat.reduceLT, Nat.reduceMul, Nat.reduceBEq, Nat.reduceLeDiff, ↓reduceIte, Int.reduceToNat, Nat.reduceGT, Int.reduceLE, Int.reduceLT, Int.reduceGE, Int.reduceGT, Int.reduceEq, Int.reduceNe, reduceCtorEq]
      exact ret_le (ck_leE _ _ _ _ _ _ ((List.sublist_cons_self _ _).trans (List.sublist_cons_self _ _))) (by rw [hK]; exact ⟨resX x, hq, rfl, rfl⟩)
  · refine append_by (a := intsAV h26 (prodsX x)) (b := .lst 1 hd2 [iv t.ty]) (l1 := []) (l2 := (3, 1, hd2) :: hp.sp) (h := h26) (h2 := hd2) Tryz.k26 Tryz.s3 Tryz.y3 Tryz.z3 rfl (by decide)
      (by simp [go_sem, intsAV]) (Cast.refl _) (by simp [go_sem, iv]) (Cast.refl _) (by simp [go_sem, CkHp]) (by simp [go_sem, iv]) (by rw [List.length_map, prods_len]; simp [maxLen]; omega) (by rw [List.length_map, prods_len]; simp; omega) (by simp [go_sem]) (fun h30 => ?_)
    refine ⟨⟨path0, false, ck_blk ..⟩, ?_⟩
    simp only [go_sem, Nat.reduceEqDiff, Nat.reduceAdd, Nat.reduceSub, Nat.reduceLT, Nat.reduceMul, Nat.reduceBEq, Nat.reduceLeDiff, ↓reduceIte, Int.reduceToNat, Nat.reduceGT, Int.reduceLE, Int.reduceLT, Int.reduceGE, Int.reduceGT, Int.reduceEq, Int.reduceNe, reduceCtorEq, ck_setSp]
    refine draw_by (mu := []) (fun _ => True) (.take 0 (.take 1 (.take 2 (.take 3 (.take 5 (.take 6 (.take 7 (.take 8 (.take 9 (.br 4 (.br 10 (.take 11 (.take 12 (.done))) (.stop)) (.stop))))))))))) (by decide +kernel) trivial (by decide +kernel) (by decide +kernel) ?_
    simp only [go_sem, Nat.reduceEqDiff, Nat.reduceAdd, Nat.reduceSub, Nat.reduceLT, Nat.reduceMul, Nat.reduceBEq, Nat.reduceLeDiff, ↓reduceIte, Int.reduceToNat, Nat.reduceGT, Int.reduceLE, Int.reduceLT, Int.reduceGE, Int.reduceGT, Int.reduceEq, Int.reduceNe, reduceCtorEq]
    have en : ((t.n.toNat : Nat) : Int) = t.n := Int.toNat_of_nonneg hnn.1
    have c0 := result1_calls (p := p) (hp := hp.setSp ((3, 1, h30) :: (3, 1, hd2) :: hp.sp)) (cb := cb) (path := path0) (found := false) hsm hdl t ht1 ht2 t.n.toNat hx' hne
    rw [en] at c0
    simp only [TermG.av, TermG.cs_eq, ptr0] at c0
    refine callX_by c0 ?_
    rintro r hp1 ⟨rfl, rfl⟩
    simp only [go_sem, Nat.reduceEqDiff, Nat.reduceAdd, Nat.reduceSub, Nat.reduceLT, Nat.reduceMul, Nat.reduceBEq, Nat.reduceLeDiff, ↓reduceIte, Int.reduceToNat, Nat.reduceGT, Int.reduceLE, Int.reduceLT, Int.reduceGE, Int.reduceGT, Int.reduceEq, Int.reduceNe, reduceCtorEq]
    have c := args_calls (hp := hp.setSp ((3, 1, h30) :: (3, 1, hd2) :: hp.sp)) (cb := cb) (path0 := path0) hv t (by rw [ho]; decide) (by rw [ho]; decide) hN he (validA_mem (by rw [ho]; decide) (by rw [ho]; decide) hva) h at_ hat h30 (prodsX x ++ [t.ty]) (by rw [List.length_append, prods_len]; simp; omega)
    simp only [TermG.av, TermG.cs_eq, ptr0, intsAV, List.map_append, List.map_cons, List.map_nil] at c
    refine callX_by c ?_
    clear c
    rintro r hp1 hR
    cases e : typeA p.ds p.fs E K t.op t.name t.ty 0 t.args with
    | ok got =>
      rw [e] at hR hK
      obtain ⟨rfl, rfl⟩ := hR
      simp only [go_sem, Nat.reduceEqDiff, Nat.reduceAdd, Nat.reduceSub, Nat.reduceLT, Nat.reduceMul, Nat.reduceBEq, Nat.reduceLeDiff, ↓reduceIte, Int.reduceToNat, Nat.reduceGT, Int.reduceLE, Int.reduceLT, Int.reduceGE, Int.reduceGT, Int.reduceEq, Int.reduceNe, reduceCtorEq]
      exact ret_le (ck_le _ _ _ _ _ ((List.sublist_cons_self _ _).trans (List.sublist_cons_self _ _))) (rulR_if (by rw [hK]; simp only [ruleT, ho, hxa]; by_cases hg : got = prodsX x ++ [t.ty] <;> simp [hg]))
    | error q =>
      rw [e] at hR hK
      obtain ⟨rfl, hq, rfl⟩ := hR
      simp only [go_sem, Nat.reduceEqDiff, Nat.reduceAdd, Nat.reduceSub, Nat.reduceLT, Nat.reduceMul, Nat.reduceBEq, Nat.reduceLeDiff, ↓reduceIte, Int.reduceToNat, Nat.reduceGT, Int.reduceLE, Int.reduceLT, Int.reduceGE, Int.reduceGT, Int.reduceEq, Int.reduceNe, reduceCtorEq]
      exact ret_le (ck_leE _ _ _ _ _ _ ((List.sublist_cons_self _ _).trans (List.sublist_cons_self _ _))) (by rw [hK]; exact ⟨resX x, hq, rfl, rfl⟩)
theorem call_rule (pre : RulePre p N t l E K at_) (ho : t.op = 9) :
    ACalls Tryz.prog 199 [ptr0 cb, envAV l, t.av, intsAV h at_] (CkHp hp cb p path0 false) (RulR p cb hp path0 at_ (typeK p.ds p.fs E K t)) := by
  obtain ⟨hv, hN, hC, he, hva, hat, hsm, hdl, hend, hfp, hx1⟩ := pre
  have hn := valid_node hva
  have hc := node_nocls (by rw [ho]; decide) (by rw [ho]; decide) hn
  have hK := typeK_no (ds := p.ds) (fs := p.fs) (E := E) (K := K) hc
  have h0 : 0 ≤ t.n := by
    rcases Int.lt_or_le t.n 0 with hl | hl
    · rw [node_9n ho hl] at hn; cases hn
    · exact hl
  obtain ⟨f, hf⟩ : ∃ f, p.fs[t.n.toNat]? = some f := by
    cases hf : p.fs[t.n.toNat]? with
    | some f => exact ⟨f, rfl⟩
    | none => rw [node_9k ho (by rw [ProgG.pf, List.getElem?_map, hf]; rfl)] at hn; cases hn
  rw [node_9 ho (by rw [hc]; rfl) (k := f.params.length) (by rw [ProgG.pf, List.getElem?_map, hf]; rfl) h0] at hn
  have hal := fields_len hn
  have hfl := hfp f (List.mem_of_getElem? hf)
  have hb := ck_blk hp cb p path0 false
  simp only [ckCs, funsAV] at hb
  refine acalls_addNil 3 1 ?_
  refine acalls_of Tryz.func199 rfl (by decide +kernel) (awp_sound (mu := []) _ _ _ ?_)
  simp only [go_sem, Nat.reduceEqDiff, Nat.reduceAdd, Nat.reduceSub, Nat.reduceLT, Nat.reduceMul, Nat.reduceBEq, Nat.reduceLeDiff, ↓reduceIte, Int.reduceToNat, Nat.reduceGT, Int.reduceLE, Int.reduceLT, Int.reduceGE, Int.reduceGT, Int.reduceEq, Int.reduceNe, reduceCtorEq, TermG.av, TermG.cs_eq, ptr0, ck_setSp]
  intro q1
  refine draw_by (mu := []) (fun h => h.blk cb = (CkHp hp cb p path0 false).blk cb) (.take 0 (.take 1 (.take 2 (.take 3 (.take 4 (.take 5 (.take 6 (.take 7 (.take 8 (.take 9 (.take 10 (.take 11 (.done))))))))))))) (by decide +kernel) rfl (by decide +kernel) (by decide +kernel) ?_
  simp only [go_sem, Nat.reduceEqDiff, Nat.reduceAdd, Nat.reduceSub, Nat.reduceLT, Nat.reduceMul, Nat.reduceBEq, Nat.reduceLeDiff, ↓reduceIte, Int.reduceToNat, Nat.reduceGT, Int.reduceLE, Int.reduceLT, Int.reduceGE, Int.reduceGT, Int.reduceEq, Int.reduceNe, reduceCtorEq, show ∀ l, (CkHp (hp.setSp l) cb p path0 false).blk = (CkHp hp cb p path0 false).blk from fun _ => rfl, hb, mapAt FunG.av _ _ _ hf, FunG.av, FunG.cs, paramsAV, List.length_map]
  refine ⟨fun h e => by rw [e]; simp only [go_sem, Nat.reduceEqDiff, Nat.reduceAdd, Nat.reduceSub, Nat.reduceLT, Nat.reduceMul, Nat.reduceBEq, Nat.reduceLeDiff, ↓reduceIte, Int.reduceToNat, Nat.reduceGT, Int.reduceLE, Int.reduceLT, Int.reduceGE, Int.reduceGT, Int.reduceEq, Int.reduceNe, reduceCtorEq], h0, fun _ _ => h0, ?_⟩
  refine aw_loopX 50 (fun y : Nat × Value => [(0, ptr0 cb), (1, envAV l), (3, intsAV h at_), (6, .ref q1 [.v (.int .i64 t.op), .v (.int .i64 t.n), .v (.string (bs t.name)), .v (.int .i64 t.ty), .lst 6 t.ha (t.args.map TermG.av), .lst 7 t.hc (t.cls.map ClauseG.av)]), (10, intsAV y.2 ((f.params.take y.1).map ParamG.ty)), (22, .lst 2 f.hp (f.params.map ParamG.av)), (23, .v (.int .i64 f.params.length)), (24, .v (.int .i64 y.1))])
    (fun y => CkHp (hp.setSp ((3, 1, y.2) :: hp.sp)) cb p path0 false) (fun y => y.1 ≤ f.params.length) (fun y => f.params.length - y.1) (0, .slice none 0 0) (Nat.zero_le _)
    (le_of_cast rfl (Hp.le_refl _) (by simp [go_sem, Cast.refl, intsAV, ptr0]; exact Cast.nil 1)) ?_
  rintro ⟨k, h10⟩ hk
  simp only at hk
  refine awp_sound (mu := []) _ _ _ ?_
  simp only [go_sem, Nat.reduceEqDiff, Nat.reduceAdd, Nat.reduceSub, Nat.reduceLT, Nat.reduceMul, Nat.reduceBEq, Nat.reduceLeDiff, ↓reduceIte, Int.reduceToNat, Nat.reduceGT, Int.reduceLE, Int.reduceLT, Int.reduceGE, Int.reduceGT, Int.reduceEq, Int.reduceNe, reduceCtorEq, intsAV]
  refine brK_mk (fun b1 => ?_) (fun b1 => ?_) <;> simp only [go_sem, Nat.reduceEqDiff, Nat.reduceAdd, Nat.reduceSub, Nat.reduceLT, Nat.reduceMul, Nat.reduceBEq, Nat.reduceLeDiff, ↓reduceIte, Int.reduceToNat, Nat.reduceGT, Int.reduceLE, Int.reduceLT, Int.reduceGE, Int.reduceGT, Int.reduceEq, Int.reduceNe, reduceCtorEq, b1]
  · have hk' : k < f.params.length := by simpa using b1
    obtain ⟨x, hx⟩ := someAt f.params k hk'
    have hwu : IntKind.i64.wrap ((k : Int) + 1) = ((k + 1 : Nat) : Int) := IntWalk.i64_in _ (by omega)
    have htk : (f.params.take (k + 1)).map ParamG.ty = (f.params.take k).map ParamG.ty ++ [x.ty] := by rw [List.take_add_one, hx]; simp
    simp only [go_sem, Nat.reduceEqDiff, Nat.reduceAdd, Nat.reduceSub, Nat.reduceLT, Nat.reduceMul, Nat.reduceBEq, Nat.reduceLeDiff, ↓reduceIte, Int.reduceToNat, Nat.reduceGT, Int.reduceLE, Int.reduceLT, Int.reduceGE, Int.reduceGT, Int.reduceEq, Int.reduceNe, reduceCtorEq, mapAt ParamG.av _ _ _ hx, ParamG.av, ParamG.cs]
    intro v hv'
    have hds := fun T cs => Hp.del_set _ _ T cs hv'.1
    simp only [go_sem, Nat.reduceEqDiff, Nat.reduceAdd, Nat.reduceSub, Nat.reduceLT, Nat.reduceMul, Nat.reduceBEq, Nat.reduceLeDiff, ↓reduceIte, Int.reduceToNat, Nat.reduceGT, Int.reduceLE, Int.reduceLT, Int.reduceGE, Int.reduceGT, Int.reduceEq, Int.reduceNe, reduceCtorEq, hds]
    refine ⟨rfl, by simp, fun hd2 => ?_⟩
    refine append_by (a := intsAV h10 ((f.params.take k).map ParamG.ty)) (b := .lst 1 hd2 [iv x.ty]) (l1 := [(3, 1, hd2)]) (l2 := hp.sp) (h := h10) (h2 := hd2) Tryz.k26 Tryz.s3 Tryz.y3 Tryz.z3 rfl (by decide)
      (by simp [go_sem, intsAV]) (Cast.refl _) (by simp [go_sem, iv]) (Cast.refl _) (by simp [go_sem, CkHp]) (by simp [go_sem, iv]) (by simp [maxLen]; omega) (by simp; omega) (by simp [go_sem]) (fun h11 => ?_)
    simp only [go_sem, Nat.reduceEqDiff, Nat.reduceAdd, Nat.reduceSub, Nat.reduceLT, Nat.reduceMul, Nat.reduceBEq, Nat.reduceLeDiff, ↓reduceIte, Int.reduceToNat, Nat.reduceGT, Int.reduceLE, Int.reduceLT, Int.reduceGE, Int.reduceGT, Int.reduceEq, Int.reduceNe, reduceCtorEq, hwu, ck_setSp]
    exact ⟨(k + 1, h11), by simp only; omega, by simp only; omega, le_mkSl rfl (by simp only [go_sem, Nat.reduceEqDiff, Nat.reduceAdd, Nat.reduceSub, Nat.reduceLT, Nat.reduceMul, Nat.reduceBEq, Nat.reduceLeDiff, ↓reduceIte, Int.reduceToNat, Nat.reduceGT, Int.reduceLE, Int.reduceLT, Int.reduceGE, Int.reduceGT, Int.reduceEq, Int.reduceNe, reduceCtorEq]; exact ⟨fun _ _ h => h, fun _ _ h => h, List.sublist_cons_self _ _, fun _ h => h⟩) (by simp [go_sem, hwu, intsAV, htk, ptr0, iv])⟩
  · have e : k = f.params.length := by simp at b1; omega
    subst e
    rw [List.take_length]
    refine draw_by (mu := []) (fun h => ∃ pa f, h.blk cb = some (232, ckCs p cb pa f)) (.take 0 (.take 1 (.take 2 (.take 3 (.take 4 (.take 5 (.take 6 (.take 7 (.take 8 (.take 9 (.take 10 (.take 11 (.take 12 (.take 13 (.take 14 (.br 15 (.take 16 (.take 17 (.done))) (.stop))))))))))))))))) (by decide +kernel) ⟨path0, false, ck_blk ..⟩ (by decide +kernel) (by decide +kernel) ?_
    simp only [go_sem, Nat.reduceEqDiff, Nat.reduceAdd, Nat.reduceSub, Nat.reduceLT, Nat.reduceMul, Nat.reduceBEq, Nat.reduceLeDiff, ↓reduceIte, Int.reduceToNat, Nat.reduceGT, Int.reduceLE, Int.reduceLT, Int.reduceGE, Int.reduceGT, Int.reduceEq, Int.reduceNe, reduceCtorEq, show ∀ l, (CkHp (hp.setSp l) cb p path0 false).blk = (CkHp hp cb p path0 false).blk from fun _ => rfl, hb, ptr0, mapAt FunG.av _ _ _ hf, FunG.av, FunG.cs]
    refine ⟨fun h e => by obtain ⟨pa, f, e⟩ := e; rw [e]; simp only [go_sem, Nat.reduceEqDiff, Nat.reduceAdd, Nat.reduceSub, Nat.reduceLT, Nat.reduceMul, Nat.reduceBEq, Nat.reduceLeDiff, ↓reduceIte, Int.reduceToNat, Nat.reduceGT, Int.reduceLE, Int.reduceLT, Int.reduceGE, Int.reduceGT, Int.reduceEq, Int.reduceNe, reduceCtorEq, ckCs, funsAV], h0, fun _ _ => h0, ?_⟩
    have c := args_calls (hp := hp.setSp ((3, 1, h10) :: hp.sp)) (cb := cb) (path0 := path0) hv t (by rw [ho]; decide) (by rw [ho]; decide) hN he (validA_mem (by rw [ho]; decide) (by rw [ho]; decide) hva) h at_ hat h10 (f.params.map ParamG.ty) (by rw [List.length_map]; omega)
    simp only [TermG.av, TermG.cs_eq, ptr0, intsAV] at c
    refine callX_by c ?_
    clear c
    rintro r hp1 hR
    cases e : typeA p.ds p.fs E K t.op t.name t.ty 0 t.args with
    | ok got =>
      rw [e] at hR hK
      obtain ⟨rfl, rfl⟩ := hR
      refine ⟨⟨_, _, ck_blk ..⟩, ?_⟩
      simp only [go_sem, Nat.reduceEqDiff, Nat.reduceAdd, Nat.reduceSub, Nat.reduceLT, Nat.reduceMul, Nat.reduceBEq, Nat.reduceLeDiff, ↓reduceIte, Int.reduceToNat, Nat.reduceGT, Int.reduceLE, Int.reduceLT, Int.reduceGE, Int.reduceGT, Int.reduceEq, Int.reduceNe, reduceCtorEq]
      exact ret_le (ck_le _ _ _ _ _ (List.sublist_cons_self _ _)) (rulR_if (by rw [hK]; simp only [ruleT, ho, hf]; by_cases hg : got = f.params.map ParamG.ty <;> simp [hg]))
    | error q =>
      rw [e] at hR hK
      obtain ⟨rfl, hq, rfl⟩ := hR
      refine ⟨⟨_, _, ck_blk ..⟩, ?_⟩
      simp only [go_sem, Nat.reduceEqDiff, Nat.reduceAdd, Nat.reduceSub, Nat.reduceLT, Nat.reduceMul, Nat.reduceBEq, Nat.reduceLeDiff, ↓reduceIte, Int.reduceToNat, Nat.reduceGT, Int.reduceLE, Int.reduceLT, Int.reduceGE, Int.reduceGT, Int.reduceEq, Int.reduceNe, reduceCtorEq]
      exact ret_le (ck_leE _ _ _ _ _ _ (List.sublist_cons_self _ _)) (by rw [hK]; exact ⟨f.res, hq, rfl, rfl⟩)
end
end Go.Proofs.YtkoachnlimebaaaGreatDoor
/- The layer 'check': the other rules. -/
set_option linter.unusedSimpArgs false
set_option linter.unusedVariables false
set_option maxRecDepth 20000
set_option maxHeartbeats 4000000
namespace Go.Proofs.YtkoachnlimebaaaGreatDoor
open Go.AL

theorem depth_arg {t a : TermG} (ha : a ∈ t.args) : depthT a + 1 ≤ depthT t := by
  have go : ∀ (l : List TermG) (a : TermG), a ∈ l → depthT a ≤ depthA l := by
    intro l
    induction l with
    | nil => intro a ha; cases ha
    | cons b r ih =>
      intro a ha
      rw [depthA_cons]
      rcases List.mem_cons.1 ha with rfl | ha
      · omega
      · have := ih a ha; omega
  have := go _ a ha
  rw [depthT_eq t]; omega
theorem depth_cls {t : TermG} {c : ClauseG} (hc : c ∈ t.cls) : depthT c.body + 1 ≤ depthT t := by
  have go : ∀ (l : List ClauseG) (c : ClauseG), c ∈ l → depthT c.body ≤ depthC l := by
    intro l
    induction l with
    | nil => intro a ha; cases ha
    | cons b r ih =>
      intro a ha
      rw [show depthC (b :: r) = max (depthT b.body) (depthC r) from by rw [depthC, depthB_eq]]
      rcases List.mem_cons.1 ha with rfl | ha
      · omega
      · have := ih a ha; omega
  have := go _ c hc
  rw [depthT_eq t]; omega
theorem len3 {α : Type} {l : List α} (h : l.length = 3) : ∃ a b c, l = [a, b, c] := by
  match l, h with
  | [a, b, c], _ => exact ⟨a, b, c, rfl⟩
section
variable {p : ProgG} {N : Nat} {hp : Hp} {cb : Nat} {path0 : AV} {t : TermG} {l : List EntG} {E K : Bytes → Option Int} {h : Value} {at_ : List Int}
theorem ifz_rule (pre : RulePre p N t l E K at_) (ho : t.op = 3) :
    ACalls Tryz.prog 193 [ptr0 cb, envAV l, t.av, intsAV h at_] (CkHp hp cb p path0 false) (RulR p cb hp path0 at_ (typeK p.ds p.fs E K t)) := by
  obtain ⟨hv, hN, hC, he, hva, hat, hsm, hdl, hend, hfp, hx1⟩ := pre
  have hn := valid_node hva
  have hc := node_nocls (by rw [ho]; decide) (by rw [ho]; decide) hn
  have hK := typeK_no (ds := p.ds) (fs := p.fs) (E := E) (K := K) hc
  rw [node_3 ho (by rw [hc]; rfl)] at hn
  obtain ⟨a, b, d, ha⟩ := len3 (l := t.args) (by have := fields_len hn; omega)
  have hvm := validA_mem (by rw [ho]; decide) (by rw [ho]; decide) hva
  refine acalls_of Tryz.func193 rfl (by decide +kernel) (awp_sound (mu := []) _ _ _ ?_)
  simp only [go_sem, Nat.reduceEqDiff, Nat.reduceAdd, Nat.reduceSub, Nat.reduceLT, Nat.reduceMul, Nat.reduceBEq, Nat.reduceLeDiff, ↓reduceIte, Int.reduceToNat, Nat.reduceGT, Int.reduceLE, Int.reduceLT, Int.reduceGE, Int.reduceGT, Int.reduceEq, Int.reduceNe, reduceCtorEq, TermG.av, TermG.cs_eq]
  intro q1
  have c := arg_calls (hp := hp) (cb := cb) (path0 := path0) hv t 0 (a := a) (by rw [ha]; rfl) (hN a (by rw [ha]; simp)) he (hvm a (by rw [ha]; simp)) h at_ (by have := depth_arg (t := t) (a := a) (by rw [ha]; simp); omega)
  simp only [TermG.av, TermG.cs_eq] at c
  refine callX_by c ?_
  clear c
  rintro r hp1 hR
  cases e0 : typeT p.ds p.fs E K a with
  | error q =>
    rw [e0] at hR
    obtain ⟨n', hq, rfl, rfl⟩ := hR
    simp only [go_sem, Nat.reduceEqDiff, Nat.reduceAdd, Nat.reduceSub, Nat.reduceLT, Nat.reduceMul, Nat.reduceBEq, Nat.reduceLeDiff, ↓reduceIte, Int.reduceToNat, Nat.reduceGT, Int.reduceLE, Int.reduceLT, Int.reduceGE, Int.reduceGT, Int.reduceEq, Int.reduceNe, reduceCtorEq]
    exact ret_same (by rw [show typeK p.ds p.fs E K t = .deep ((0 : Nat) :: q) from by rw [hK, ha]; simp only [typeA_cons, typeA_nil, argE_id (show t.op ≠ 8 by rw [ho]; decide), argK_id (show t.op ≠ 11 by rw [ho]; decide), e0]]; exact ⟨0, hq, rfl, rfl⟩)
  | ok n0 =>
    rw [e0] at hR
    obtain ⟨rfl, rfl⟩ := hR
    simp only [go_sem, Nat.reduceEqDiff, Nat.reduceAdd, Nat.reduceSub, Nat.reduceLT, Nat.reduceMul, Nat.reduceBEq, Nat.reduceLeDiff, ↓reduceIte, Int.reduceToNat, Nat.reduceGT, Int.reduceLE, Int.reduceLT, Int.reduceGE, Int.reduceGT, Int.reduceEq, Int.reduceNe, reduceCtorEq]
    have c := arg_calls (hp := hp) (cb := cb) (path0 := path0) hv t 1 (a := b) (by rw [ha]; rfl) (hN b (by rw [ha]; simp)) he (hvm b (by rw [ha]; simp)) h at_ (by have := depth_arg (t := t) (a := b) (by rw [ha]; simp); omega)
    simp only [TermG.av, TermG.cs_eq] at c
    refine callX_by c ?_
    clear c
    rintro r hp1 hR
    cases e1 : typeT p.ds p.fs E K b with
    | error q =>
      rw [e1] at hR
      obtain ⟨n', hq, rfl, rfl⟩ := hR
      simp only [go_sem, Nat.reduceEqDiff, Nat.reduceAdd, Nat.reduceSub, Nat.reduceLT, Nat.reduceMul, Nat.reduceBEq, Nat.reduceLeDiff, ↓reduceIte, Int.reduceToNat, Nat.reduceGT, Int.reduceLE, Int.reduceLT, Int.reduceGE, Int.reduceGT, Int.reduceEq, Int.reduceNe, reduceCtorEq]
      exact ret_same (by rw [show typeK p.ds p.fs E K t = .deep ((1 : Nat) :: q) from by rw [hK, ha]; simp only [typeA_cons, typeA_nil, argE_id (show t.op ≠ 8 by rw [ho]; decide), argK_id (show t.op ≠ 11 by rw [ho]; decide), e0, e1]]; exact ⟨0, hq, rfl, rfl⟩)
    | ok n1 =>
      rw [e1] at hR
      obtain ⟨rfl, rfl⟩ := hR
      simp only [go_sem, Nat.reduceEqDiff, Nat.reduceAdd, Nat.reduceSub, Nat.reduceLT, Nat.reduceMul, Nat.reduceBEq, Nat.reduceLeDiff, ↓reduceIte, Int.reduceToNat, Nat.reduceGT, Int.reduceLE, Int.reduceLT, Int.reduceGE, Int.reduceGT, Int.reduceEq, Int.reduceNe, reduceCtorEq]
      have c := arg_calls (hp := hp) (cb := cb) (path0 := path0) hv t 2 (a := d) (by rw [ha]; rfl) (hN d (by rw [ha]; simp)) he (hvm d (by rw [ha]; simp)) h at_ (by have := depth_arg (t := t) (a := d) (by rw [ha]; simp); omega)
      simp only [TermG.av, TermG.cs_eq] at c
      refine callX_by c ?_
      clear c
      rintro r hp1 hR
      cases e2 : typeT p.ds p.fs E K d with
      | error q =>
        rw [e2] at hR
        obtain ⟨n', hq, rfl, rfl⟩ := hR
        simp only [go_sem, Nat.reduceEqDiff, Nat.reduceAdd, Nat.reduceSub, Nat.reduceLT, Nat.reduceMul, Nat.reduceBEq, Nat.reduceLeDiff, ↓reduceIte, Int.reduceToNat, Nat.reduceGT, Int.reduceLE, Int.reduceLT, Int.reduceGE, Int.reduceGT, Int.reduceEq, Int.reduceNe, reduceCtorEq]
        exact ret_same (by rw [show typeK p.ds p.fs E K t = .deep ((2 : Nat) :: q) from by rw [hK, ha]; simp only [typeA_cons, typeA_nil, argE_id (show t.op ≠ 8 by rw [ho]; decide), argK_id (show t.op ≠ 11 by rw [ho]; decide), e0, e1, e2]]; exact ⟨n1, hq, rfl, rfl⟩)
      | ok n2 =>
        rw [e2] at hR
        obtain ⟨rfl, rfl⟩ := hR
        simp only [go_sem, Nat.reduceEqDiff, Nat.reduceAdd, Nat.reduceSub, Nat.reduceLT, Nat.reduceMul, Nat.reduceBEq, Nat.reduceLeDiff, ↓reduceIte, Int.reduceToNat, Nat.reduceGT, Int.reduceLE, Int.reduceLT, Int.reduceGE, Int.reduceGT, Int.reduceEq, Int.reduceNe, reduceCtorEq]
        have hk2 : typeK p.ds p.fs E K t = if n0 = 0 ∧ n1 = n2 then .good n1 else .bad := by
          rw [hK, ha]; simp only [typeA_cons, typeA_nil, argE_id (show t.op ≠ 8 by rw [ho]; decide), argK_id (show t.op ≠ 11 by rw [ho]; decide), e0, e1, e2]
          simp only [ruleT, ho]
          by_cases hg : n0 = 0 ∧ n1 = n2 <;> simp [hg]
        have hz : decide (n0 = 0 ∧ n1 = n2) = (decide (n0 = 0) && decide (n1 = n2)) := by simp
        refine brK_mk (fun b1 => ?_) (fun b1 => ?_) <;> simp only [go_sem, Nat.reduceEqDiff, Nat.reduceAdd, Nat.reduceSub, Nat.reduceLT, Nat.reduceMul, Nat.reduceBEq, Nat.reduceLeDiff, ↓reduceIte, Int.reduceToNat, Nat.reduceGT, Int.reduceLE, Int.reduceLT, Int.reduceGE, Int.reduceGT, Int.reduceEq, Int.reduceNe, reduceCtorEq, b1]
        · have r := rulR_if (p := p) (cb := cb) (hp := hp) (path0 := path0) (at_ := at_) hk2
          rw [hz, b1, Bool.true_and] at r
          exact ret_same r
        · have r := rulR_if (p := p) (cb := cb) (hp := hp) (path0 := path0) (at_ := at_) hk2
          rw [hz, b1, Bool.false_and] at r
          exact ret_same r
theorem emit_rule (pre : RulePre p N t l E K at_) (ho : t.op = 10) :
    ACalls Tryz.prog 200 [ptr0 cb, envAV l, t.av, intsAV h at_] (CkHp hp cb p path0 false) (RulR p cb hp path0 at_ (typeK p.ds p.fs E K t)) := by
  obtain ⟨hv, hN, hC, he, hva, hat, hsm, hdl, hend, hfp, hx1⟩ := pre
  have hn := valid_node hva
  have hc := node_nocls (by rw [ho]; decide) (by rw [ho]; decide) hn
  have hK := typeK_no (ds := p.ds) (fs := p.fs) (E := E) (K := K) hc
  rw [node_10 ho (by rw [hc]; rfl)] at hn
  obtain ⟨a, b, ha⟩ := len2 (l := t.args) (by have := fields_len hn; omega)
  have hvm := validA_mem (by rw [ho]; decide) (by rw [ho]; decide) hva
  refine acalls_of Tryz.func200 rfl (by decide +kernel) (awp_sound (mu := []) _ _ _ ?_)
  simp only [go_sem, Nat.reduceEqDiff, Nat.reduceAdd, Nat.reduceSub, Nat.reduceLT, Nat.reduceMul, Nat.reduceBEq, Nat.reduceLeDiff, ↓reduceIte, Int.reduceToNat, Nat.reduceGT, Int.reduceLE, Int.reduceLT, Int.reduceGE, Int.reduceGT, Int.reduceEq, Int.reduceNe, reduceCtorEq, TermG.av, TermG.cs_eq]
  intro q1
  have c := arg_calls (hp := hp) (cb := cb) (path0 := path0) hv t 0 (a := a) (by rw [ha]; rfl) (hN a (by rw [ha]; simp)) he (hvm a (by rw [ha]; simp)) h at_ (by have := depth_arg (t := t) (a := a) (by rw [ha]; simp); omega)
  simp only [TermG.av, TermG.cs_eq] at c
  refine callX_by c ?_
  clear c
  rintro r hp1 hR
  cases e0 : typeT p.ds p.fs E K a with
  | error q =>
    rw [e0] at hR
    obtain ⟨n', hq, rfl, rfl⟩ := hR
    simp only [go_sem, Nat.reduceEqDiff, Nat.reduceAdd, Nat.reduceSub, Nat.reduceLT, Nat.reduceMul, Nat.reduceBEq, Nat.reduceLeDiff, ↓reduceIte, Int.reduceToNat, Nat.reduceGT, Int.reduceLE, Int.reduceLT, Int.reduceGE, Int.reduceGT, Int.reduceEq, Int.reduceNe, reduceCtorEq]
    exact ret_same (by rw [show typeK p.ds p.fs E K t = .deep ((0 : Nat) :: q) from by rw [hK, ha]; simp only [typeA_cons, typeA_nil, argE_id (show t.op ≠ 8 by rw [ho]; decide), argK_id (show t.op ≠ 11 by rw [ho]; decide), e0]]; exact ⟨0, hq, rfl, rfl⟩)
  | ok n0 =>
    rw [e0] at hR
    obtain ⟨rfl, rfl⟩ := hR
    simp only [go_sem, Nat.reduceEqDiff, Nat.reduceAdd, Nat.reduceSub, Nat.reduceLT, Nat.reduceMul, Nat.reduceBEq, Nat.reduceLeDiff, ↓reduceIte, Int.reduceToNat, Nat.reduceGT, Int.reduceLE, Int.reduceLT, Int.reduceGE, Int.reduceGT, Int.reduceEq, Int.reduceNe, reduceCtorEq]
    have c := arg_calls (hp := hp) (cb := cb) (path0 := path0) hv t 1 (a := b) (by rw [ha]; rfl) (hN b (by rw [ha]; simp)) he (hvm b (by rw [ha]; simp)) h at_ (by have := depth_arg (t := t) (a := b) (by rw [ha]; simp); omega)
    simp only [TermG.av, TermG.cs_eq] at c
    refine callX_by c ?_
    clear c
    rintro r hp1 hR
    cases e1 : typeT p.ds p.fs E K b with
    | error q =>
      rw [e1] at hR
      obtain ⟨n', hq, rfl, rfl⟩ := hR
      simp only [go_sem, Nat.reduceEqDiff, Nat.reduceAdd, Nat.reduceSub, Nat.reduceLT, Nat.reduceMul, Nat.reduceBEq, Nat.reduceLeDiff, ↓reduceIte, Int.reduceToNat, Nat.reduceGT, Int.reduceLE, Int.reduceLT, Int.reduceGE, Int.reduceGT, Int.reduceEq, Int.reduceNe, reduceCtorEq]
      exact ret_same (by rw [show typeK p.ds p.fs E K t = .deep ((1 : Nat) :: q) from by rw [hK, ha]; simp only [typeA_cons, typeA_nil, argE_id (show t.op ≠ 8 by rw [ho]; decide), argK_id (show t.op ≠ 11 by rw [ho]; decide), e0, e1]]; exact ⟨n', hq, rfl, rfl⟩)
    | ok n1 =>
      rw [e1] at hR
      obtain ⟨rfl, rfl⟩ := hR
      simp only [go_sem, Nat.reduceEqDiff, Nat.reduceAdd, Nat.reduceSub, Nat.reduceLT, Nat.reduceMul, Nat.reduceBEq, Nat.reduceLeDiff, ↓reduceIte, Int.reduceToNat, Nat.reduceGT, Int.reduceLE, Int.reduceLT, Int.reduceGE, Int.reduceGT, Int.reduceEq, Int.reduceNe, reduceCtorEq]
      have hk2 : typeK p.ds p.fs E K t = if n0 = 0 then .good n1 else .bad := by
        rw [hK, ha]; simp only [typeA_cons, typeA_nil, argE_id (show t.op ≠ 8 by rw [ho]; decide), argK_id (show t.op ≠ 11 by rw [ho]; decide), e0, e1]
        simp only [ruleT, ho]
        by_cases hg : n0 = 0 <;> simp [hg]
      exact ret_same (rulR_if hk2)
theorem let_rule (pre : RulePre p N t l E K at_) (ho : t.op = 8) :
    ACalls Tryz.prog 198 [ptr0 cb, envAV l, t.av, intsAV h at_] (CkHp hp cb p path0 false) (RulR p cb hp path0 at_ (typeK p.ds p.fs E K t)) := by
  obtain ⟨hv, hN, hC, he, hva, hat, hsm, hdl, hend, hfp, hx1⟩ := pre
  have hn := valid_node hva
  have hc := node_nocls (by rw [ho]; decide) (by rw [ho]; decide) hn
  have hK := typeK_no (ds := p.ds) (fs := p.fs) (E := E) (K := K) hc
  rw [node_8 ho (by rw [hc]; rfl), Bool.and_eq_true] at hn
  obtain ⟨a, b, ha⟩ := len2 (l := t.args) (by have := fields_len hn.1; omega)
  have hvv : validT p.ds p.pf (domB E) (domB K) a = true ∧ validT p.ds p.pf (domB (setE E t.name t.ty)) (domB K) b = true := by
    rw [validT_eq, ha, hc, validC_nil, validA_cons, validA_cons, validA_nil, ho] at hva
    simp [argV, argL] at hva
    rw [dom_set]; exact hva.2
  refine acalls_of Tryz.func198 rfl (by decide +kernel) (awp_sound (mu := []) _ _ _ ?_)
  simp only [go_sem, Nat.reduceEqDiff, Nat.reduceAdd, Nat.reduceSub, Nat.reduceLT, Nat.reduceMul, Nat.reduceBEq, Nat.reduceLeDiff, ↓reduceIte, Int.reduceToNat, Nat.reduceGT, Int.reduceLE, Int.reduceLT, Int.reduceGE, Int.reduceGT, Int.reduceEq, Int.reduceNe, reduceCtorEq, TermG.av, TermG.cs_eq]
  intro q1
  have c := arg_calls (hp := hp) (cb := cb) (path0 := path0) hv t 0 (a := a) (by rw [ha]; rfl) (hN a (by rw [ha]; simp)) he hvv.1 h at_ (by have := depth_arg (t := t) (a := a) (by rw [ha]; simp); omega)
  simp only [TermG.av, TermG.cs_eq] at c
  refine callX_by c ?_
  clear c
  rintro r hp1 hR
  cases e0 : typeT p.ds p.fs E K a with
  | error q =>
    rw [e0] at hR
    obtain ⟨n', hq, rfl, rfl⟩ := hR
    simp only [go_sem, Nat.reduceEqDiff, Nat.reduceAdd, Nat.reduceSub, Nat.reduceLT, Nat.reduceMul, Nat.reduceBEq, Nat.reduceLeDiff, ↓reduceIte, Int.reduceToNat, Nat.reduceGT, Int.reduceLE, Int.reduceLT, Int.reduceGE, Int.reduceGT, Int.reduceEq, Int.reduceNe, reduceCtorEq]
    exact ret_same (by rw [show typeK p.ds p.fs E K t = .deep ((0 : Nat) :: q) from by rw [hK, ha]; simp [typeA_cons, typeA_nil, argE, argK, ho, e0]]; exact ⟨0, hq, rfl, rfl⟩)
  | ok n0 =>
    rw [e0] at hR
    obtain ⟨rfl, rfl⟩ := hR
    simp only [go_sem, Nat.reduceEqDiff, Nat.reduceAdd, Nat.reduceSub, Nat.reduceLT, Nat.reduceMul, Nat.reduceBEq, Nat.reduceLeDiff, ↓reduceIte, Int.reduceToNat, Nat.reduceGT, Int.reduceLE, Int.reduceLT, Int.reduceGE, Int.reduceGT, Int.reduceEq, Int.reduceNe, reduceCtorEq]
    refine draw_by (mu := []) (fun _ => True) (.take 0 (.take 1 (.take 2 (.take 3 (.take 4 (.take 5 (.take 7 (.take 8 (.br 6 (.br 9 (.take 10 (.take 11 (.take 12 (.take 13 (.take 14 (.done)))))) (.stop)) (.stop)))))))))) (by decide +kernel) trivial (by decide +kernel) (by decide +kernel) ?_
    simp only [go_sem, Nat.reduceEqDiff, Nat.reduceAdd, Nat.reduceSub, Nat.reduceLT, Nat.reduceMul, Nat.reduceBEq, Nat.reduceLeDiff, ↓reduceIte, Int.reduceToNat, Nat.reduceGT, Int.reduceLE, Int.reduceLT, Int.reduceGE, Int.reduceGT, Int.reduceEq, Int.reduceNe, reduceCtorEq]
    refine callX_by (bind_calls l t.name t.ty false _) ?_
    rintro r hp2 ⟨⟨q, rfl⟩, rfl⟩
    simp only [go_sem, Nat.reduceEqDiff, Nat.reduceAdd, Nat.reduceSub, Nat.reduceLT, Nat.reduceMul, Nat.reduceBEq, Nat.reduceLeDiff, ↓reduceIte, Int.reduceToNat, Nat.reduceGT, Int.reduceLE, Int.reduceLT, Int.reduceGE, Int.reduceGT, Int.reduceEq, Int.reduceNe, reduceCtorEq]
    have c := arg_calls (hp := hp) (cb := cb) (path0 := path0) hv t 1 (a := b) (by rw [ha]; rfl) (hN b (by rw [ha]; simp)) (env_var he q t.name t.ty) hvv.2 h at_ (by have := depth_arg (t := t) (a := b) (by rw [ha]; simp); omega)
    simp only [TermG.av, TermG.cs_eq] at c
    refine callX_by c ?_
    clear c
    rintro r hp1 hR
    cases e1 : typeT p.ds p.fs (setE E t.name t.ty) K b with
    | error q =>
      rw [e1] at hR
      obtain ⟨n', hq, rfl, rfl⟩ := hR
      simp only [go_sem, Nat.reduceEqDiff, Nat.reduceAdd, Nat.reduceSub, Nat.reduceLT, Nat.reduceMul, Nat.reduceBEq, Nat.reduceLeDiff, ↓reduceIte, Int.reduceToNat, Nat.reduceGT, Int.reduceLE, Int.reduceLT, Int.reduceGE, Int.reduceGT, Int.reduceEq, Int.reduceNe, reduceCtorEq]
      refine draw_by (mu := []) (fun _ => True) (.take 0 (.take 1 (.take 2 (.take 3 (.take 4 (.take 5 (.take 6 (.take 7 (.take 8 (.take 9 (.done))))))))))) (by decide +kernel) trivial (by decide +kernel) (by decide +kernel) ?_
      simp only [go_sem, Nat.reduceEqDiff, Nat.reduceAdd, Nat.reduceSub, Nat.reduceLT, Nat.reduceMul, Nat.reduceBEq, Nat.reduceLeDiff, ↓reduceIte, Int.reduceToNat, Nat.reduceGT, Int.reduceLE, Int.reduceLT, Int.reduceGE, Int.reduceGT, Int.reduceEq, Int.reduceNe, reduceCtorEq]
      exact ret_same (by rw [show typeK p.ds p.fs E K t = .deep ((1 : Nat) :: q) from by rw [hK, ha]; simp [typeA_cons, typeA_nil, argE, argK, ho, e0, e1]]; exact ⟨n', hq, rfl, rfl⟩)
    | ok n1 =>
      rw [e1] at hR
      obtain ⟨rfl, rfl⟩ := hR
      simp only [go_sem, Nat.reduceEqDiff, Nat.reduceAdd, Nat.reduceSub, Nat.reduceLT, Nat.reduceMul, Nat.reduceBEq, Nat.reduceLeDiff, ↓reduceIte, Int.reduceToNat, Nat.reduceGT, Int.reduceLE, Int.reduceLT, Int.reduceGE, Int.reduceGT, Int.reduceEq, Int.reduceNe, reduceCtorEq]
      have hk2 : typeK p.ds p.fs E K t = if n0 = t.ty then .good n1 else .bad := by
        rw [hK, ha]; simp [typeA_cons, typeA_nil, argE, argK, ho, e0, e1]
        simp only [ruleT, ho]
        by_cases hg : n0 = t.ty <;> simp [hg]
      refine draw_by (mu := []) (fun _ => True) (.take 0 (.take 1 (.take 2 (.take 3 (.take 4 (.take 5 (.take 6 (.take 7 (.take 8 (.take 9 (.done))))))))))) (by decide +kernel) trivial (by decide +kernel) (by decide +kernel) ?_
      simp only [go_sem, Nat.reduceEqDiff, Nat.reduceAdd, Nat.reduceSub, Nat.reduceLT, Nat.reduceMul, Nat.reduceBEq, Nat.reduceLeDiff, ↓reduceIte, Int.reduceToNat, Nat.reduceGT, Int.reduceLE, Int.reduceLT, Int.reduceGE, Int.reduceGT, Int.reduceEq, Int.reduceNe, reduceCtorEq]
      exact ret_same (rulR_if hk2)
theorem mark_rule (pre : RulePre p N t l E K at_) (ho : t.op = 11) :
    ACalls Tryz.prog 201 [ptr0 cb, envAV l, t.av, intsAV h at_] (CkHp hp cb p path0 false) (RulR p cb hp path0 at_ (typeK p.ds p.fs E K t)) := by
  obtain ⟨hv, hN, hC, he, hva, hat, hsm, hdl, hend, hfp, hx1⟩ := pre
  have hn := valid_node hva
  have hc := node_nocls (by rw [ho]; decide) (by rw [ho]; decide) hn
  have hK := typeK_no (ds := p.ds) (fs := p.fs) (E := E) (K := K) hc
  rw [node_11 ho (by rw [hc]; rfl), Bool.and_eq_true] at hn
  obtain ⟨a, ha⟩ := len1 (l := t.args) (by have := fields_len hn.1; omega)
  have hvv : validT p.ds p.pf (domB E) (domB (setE K t.name t.ty)) a = true := by
    rw [validT_eq, ha, hc, validC_nil, validA_cons, validA_nil, ho] at hva
    simp [argV, argL] at hva
    rw [dom_set]; exact hva.2
  refine acalls_of Tryz.func201 rfl (by decide +kernel) (awp_sound (mu := []) _ _ _ ?_)
  simp only [go_sem, Nat.reduceEqDiff, Nat.reduceAdd, Nat.reduceSub, Nat.reduceLT, Nat.reduceMul, Nat.reduceBEq, Nat.reduceLeDiff, ↓reduceIte, Int.reduceToNat, Nat.reduceGT, Int.reduceLE, Int.reduceLT, Int.reduceGE, Int.reduceGT, Int.reduceEq, Int.reduceNe, reduceCtorEq, TermG.av, TermG.cs_eq]
  intro q1
  refine draw_by (mu := []) (fun _ => True) (.take 0 (.take 1 (.take 2 (.take 3 (.take 4 (.take 5 (.take 7 (.take 8 (.br 6 (.br 9 (.take 10 (.take 11 (.take 12 (.take 13 (.take 14 (.done)))))) (.stop)) (.stop)))))))))) (by decide +kernel) trivial (by decide +kernel) (by decide +kernel) ?_
  simp only [go_sem, Nat.reduceEqDiff, Nat.reduceAdd, Nat.reduceSub, Nat.reduceLT, Nat.reduceMul, Nat.reduceBEq, Nat.reduceLeDiff, ↓reduceIte, Int.reduceToNat, Nat.reduceGT, Int.reduceLE, Int.reduceLT, Int.reduceGE, Int.reduceGT, Int.reduceEq, Int.reduceNe, reduceCtorEq]
  refine callX_by (bind_calls l t.name t.ty true _) ?_
  rintro r hp2 ⟨⟨q, rfl⟩, rfl⟩
  simp only [go_sem, Nat.reduceEqDiff, Nat.reduceAdd, Nat.reduceSub, Nat.reduceLT, Nat.reduceMul, Nat.reduceBEq, Nat.reduceLeDiff, ↓reduceIte, Int.reduceToNat, Nat.reduceGT, Int.reduceLE, Int.reduceLT, Int.reduceGE, Int.reduceGT, Int.reduceEq, Int.reduceNe, reduceCtorEq]
  have c := arg_calls (hp := hp) (cb := cb) (path0 := path0) hv t 0 (a := a) (by rw [ha]; rfl) (hN a (by rw [ha]; simp)) (env_lab he q t.name t.ty) hvv h at_ (by have := depth_arg (t := t) (a := a) (by rw [ha]; simp); omega)
  simp only [TermG.av, TermG.cs_eq] at c
  refine callX_by c ?_
  clear c
  rintro r hp1 hR
  cases e0 : typeT p.ds p.fs E (setE K t.name t.ty) a with
  | error q =>
    rw [e0] at hR
    obtain ⟨n', hq, rfl, rfl⟩ := hR
    simp only [go_sem, Nat.reduceEqDiff, Nat.reduceAdd, Nat.reduceSub, Nat.reduceLT, Nat.reduceMul, Nat.reduceBEq, Nat.reduceLeDiff, ↓reduceIte, Int.reduceToNat, Nat.reduceGT, Int.reduceLE, Int.reduceLT, Int.reduceGE, Int.reduceGT, Int.reduceEq, Int.reduceNe, reduceCtorEq]
    refine draw_by (mu := []) (fun _ => True) (.take 0 (.take 1 (.take 2 (.take 3 (.take 4 (.take 5 (.take 6 (.take 7 (.take 8 (.take 9 (.take 10 (.done)))))))))))) (by decide +kernel) trivial (by decide +kernel) (by decide +kernel) ?_
    simp only [go_sem, Nat.reduceEqDiff, Nat.reduceAdd, Nat.reduceSub, Nat.reduceLT, Nat.reduceMul, Nat.reduceBEq, Nat.reduceLeDiff, ↓reduceIte, Int.reduceToNat, Nat.reduceGT, Int.reduceLE, Int.reduceLT, Int.reduceGE, Int.reduceGT, Int.reduceEq, Int.reduceNe, reduceCtorEq]
    exact ret_same (by rw [show typeK p.ds p.fs E K t = .deep ((0 : Nat) :: q) from by rw [hK, ha]; simp [typeA_cons, typeA_nil, argE, argK, ho, e0]]; exact ⟨t.ty, hq, rfl, rfl⟩)
  | ok n0 =>
    rw [e0] at hR
    obtain ⟨rfl, rfl⟩ := hR
    simp only [go_sem, Nat.reduceEqDiff, Nat.reduceAdd, Nat.reduceSub, Nat.reduceLT, Nat.reduceMul, Nat.reduceBEq, Nat.reduceLeDiff, ↓reduceIte, Int.reduceToNat, Nat.reduceGT, Int.reduceLE, Int.reduceLT, Int.reduceGE, Int.reduceGT, Int.reduceEq, Int.reduceNe, reduceCtorEq]
    have hk2 : typeK p.ds p.fs E K t = if n0 = t.ty then .good t.ty else .bad := by
      rw [hK, ha]; simp [typeA_cons, typeA_nil, argE, argK, ho, e0]
      simp only [ruleT, ho]
      by_cases hg : n0 = t.ty <;> simp [hg]
    refine draw_by (mu := []) (fun _ => True) (.take 0 (.take 1 (.take 2 (.take 3 (.take 4 (.take 5 (.take 6 (.take 7 (.take 8 (.take 9 (.take 10 (.done)))))))))))) (by decide +kernel) trivial (by decide +kernel) (by decide +kernel) ?_
    simp only [go_sem, Nat.reduceEqDiff, Nat.reduceAdd, Nat.reduceSub, Nat.reduceLT, Nat.reduceMul, Nat.reduceBEq, Nat.reduceLeDiff, ↓reduceIte, Int.reduceToNat, Nat.reduceGT, Int.reduceLE, Int.reduceLT, Int.reduceGE, Int.reduceGT, Int.reduceEq, Int.reduceNe, reduceCtorEq]
    exact ret_same (rulR_if hk2)
theorem jump_rule (pre : RulePre p N t l E K at_) (ho : t.op = 12) :
    ACalls Tryz.prog 202 [ptr0 cb, envAV l, t.av, intsAV h at_] (CkHp hp cb p path0 false) (RulR p cb hp path0 at_ (typeK p.ds p.fs E K t)) := by
  obtain ⟨hv, hN, hC, he, hva, hat, hsm, hdl, hend, hfp, hx1⟩ := pre
  have hn := valid_node hva
  have hc := node_nocls (by rw [ho]; decide) (by rw [ho]; decide) hn
  have hK := typeK_no (ds := p.ds) (fs := p.fs) (E := E) (K := K) hc
  rw [node_12 ho (by rw [hc]; rfl), Bool.and_eq_true, Bool.and_eq_true] at hn
  obtain ⟨a, ha⟩ := len1 (l := t.args) (by have := fields_len hn.1; omega)
  obtain ⟨w, hw⟩ := Option.isSome_iff_exists.1 (show (K t.name).isSome = true from hn.2.1)
  have hvm := validA_mem (by rw [ho]; decide) (by rw [ho]; decide) hva
  refine acalls_of Tryz.func202 rfl (by decide +kernel) (awp_sound (mu := []) _ _ _ ?_)
  simp only [go_sem, Nat.reduceEqDiff, Nat.reduceAdd, Nat.reduceSub, Nat.reduceLT, Nat.reduceMul, Nat.reduceBEq, Nat.reduceLeDiff, ↓reduceIte, Int.reduceToNat, Nat.reduceGT, Int.reduceLE, Int.reduceLT, Int.reduceGE, Int.reduceGT, Int.reduceEq, Int.reduceNe, reduceCtorEq, TermG.av, TermG.cs_eq]
  intro q1
  refine callX_by (find_calls l t.name true _) ?_
  rintro r hp2 ⟨rfl, rfl⟩
  simp only [go_sem, Nat.reduceEqDiff, Nat.reduceAdd, Nat.reduceSub, Nat.reduceLT, Nat.reduceMul, Nat.reduceBEq, Nat.reduceLeDiff, ↓reduceIte, Int.reduceToNat, Nat.reduceGT, Int.reduceLE, Int.reduceLT, Int.reduceGE, Int.reduceGT, Int.reduceEq, Int.reduceNe, reduceCtorEq, he.k, hw, Option.getD_some]
  have c := arg_calls (hp := hp) (cb := cb) (path0 := path0) hv t 0 (a := a) (by rw [ha]; rfl) (hN a (by rw [ha]; simp)) he (hvm a (by rw [ha]; simp)) h at_ (by have := depth_arg (t := t) (a := a) (by rw [ha]; simp); omega)
  simp only [TermG.av, TermG.cs_eq] at c
  refine callX_by c ?_
  clear c
  rintro r hp1 hR
  cases e0 : typeT p.ds p.fs E K a with
  | error q =>
    rw [e0] at hR
    obtain ⟨n', hq, rfl, rfl⟩ := hR
    simp only [go_sem, Nat.reduceEqDiff, Nat.reduceAdd, Nat.reduceSub, Nat.reduceLT, Nat.reduceMul, Nat.reduceBEq, Nat.reduceLeDiff, ↓reduceIte, Int.reduceToNat, Nat.reduceGT, Int.reduceLE, Int.reduceLT, Int.reduceGE, Int.reduceGT, Int.reduceEq, Int.reduceNe, reduceCtorEq]
    exact ret_same (by rw [show typeK p.ds p.fs E K t = .deep ((0 : Nat) :: q) from by rw [hK, ha]; simp [typeA_cons, typeA_nil, argE, argK, ho, e0]]; exact ⟨t.ty, hq, rfl, rfl⟩)
  | ok n0 =>
    rw [e0] at hR
    obtain ⟨rfl, rfl⟩ := hR
    simp only [go_sem, Nat.reduceEqDiff, Nat.reduceAdd, Nat.reduceSub, Nat.reduceLT, Nat.reduceMul, Nat.reduceBEq, Nat.reduceLeDiff, ↓reduceIte, Int.reduceToNat, Nat.reduceGT, Int.reduceLE, Int.reduceLT, Int.reduceGE, Int.reduceGT, Int.reduceEq, Int.reduceNe, reduceCtorEq]
    have hk2 : typeK p.ds p.fs E K t = if n0 = w then .good t.ty else .bad := by
      rw [hK, ha]; simp [typeA_cons, typeA_nil, argE, argK, ho, e0]
      simp only [ruleT, ho, hw]
      by_cases hg : n0 = w
      · subst hg; simp
      · simp [hg, show ¬ w = n0 from fun e => hg e.symm]
    exact ret_same (rulR_if hk2)
end
end Go.Proofs.YtkoachnlimebaaaGreatDoor
/- The layer 'check': the rules of clauses. -/
set_option linter.unusedSimpArgs false
set_option linter.unusedVariables false
set_option maxRecDepth 20000
set_option maxHeartbeats 4000000
namespace Go.Proofs.YtkoachnlimebaaaGreatDoor
open Go.AL

theorem typeC_nil (ds : List DeclG) (fs : List FunG) (E K : Bytes → Option Int) (xs : List XtorG) (k : Nat) : typeC ds fs E K xs k [] = .ok [] := by rw [typeC]
theorem typeC_cons (ds : List DeclG) (fs : List FunG) (E K : Bytes → Option Int) (x : XtorG) (xs : List XtorG) (k : Nat) (c : ClauseG) (r : List ClauseG) : typeC ds fs E K (x :: xs) k (c :: r) =
    match typeT ds fs (bindE E c.names (prodsX x)) K c.body with
    | .error p => .error ((k : Int) :: p)
    | .ok n => match typeC ds fs E K xs (k + 1) r with
      | .error p => .error p
      | .ok l => .ok (n :: l) := by
  rw [typeC, typeB_eq]
  simp only [List.head?_cons, Option.map_some, Option.getD_some, List.drop_succ_cons, List.drop_zero]
  cases typeT ds fs (bindE E c.names (prodsX x)) K c.body with
  | error q => rfl
  | ok n => simp only; cases typeC ds fs E K xs (k + 1) r <;> rfl
theorem clsNames_at : ∀ {xs : List XtorG} {cs : List ClauseG} {i : Nat} {x : XtorG} {c : ClauseG}, clsNames xs cs = true → xs[i]? = some x → cs[i]? = some c → c.names.length = prodN x
  | [], [], _, _, _, _, h, _ => by simp at h
  | [], _ :: _, _, _, _, h, _, _ => by cases h
  | _ :: _, [], _, _, _, h, _, _ => by cases h
  | y :: xs, d :: cs, i, x, c, h, hx, hc => by
    rw [clsNames, Bool.and_eq_true, Bool.and_eq_true, decide_eq_true_eq] at h
    cases i with
    | zero =>
      simp only [List.getElem?_cons_zero, Option.some.injEq] at hx hc
      subst hx; subst hc; exact h.1.1
    | succ i =>
      rw [List.getElem?_cons_succ] at hx hc
      exact clsNames_at h.2 hx hc
theorem clsNames_len' {xs : List XtorG} {cs : List ClauseG} (h : clsNames xs cs = true) : xs.length = cs.length := by
  by_cases e : xs.length = cs.length
  · exact e
  · rw [clsNames_len xs cs e] at h; cases h
theorem validC_mem {ds : List DeclG} {pf : List Nat} {V L : Bytes → Bool} : ∀ {l : List ClauseG}, validC ds pf V L l = true → ∀ c ∈ l, validT ds pf (addL V c.names) L c.body = true
  | [], _, c, hc => by cases hc
  | d :: r, h, c, hc => by
    rw [validC_cons, Bool.and_eq_true] at h
    rcases List.mem_cons.1 hc with rfl | hc
    · exact h.1
    · exact validC_mem h.2 c hc
theorem typeK_cls7 {ds : List DeclG} {fs : List FunG} {E K : Bytes → Option Int} {t : TermG} (ha : t.args = []) : typeK ds fs E K t =
    match typeC ds fs E K (xtorsOf ds t.ty) 0 t.cls with
    | .error q => .deep q
    | .ok l => match ruleT ds fs E K t l with
      | some r => .good r
      | none => .bad := by
  rw [typeK, ha, typeA_nil]; rfl
section
variable {p : ProgG} {N : Nat} {hp : Hp} {cb : Nat} {path0 : AV} {t : TermG} {l : List EntG} {E K : Bytes → Option Int} {h : Value} {at_ : List Int}
theorem rulR_b {n : Int} {b : Bool} {k : RR} (hK : k = if b = true then .good n else .bad) : RulR p cb hp path0 at_ k (.tup [.v (.int .i64 n), .v (.bool b)]) (CkHp hp cb p path0 false) := by
  have := rulR_if (p := p) (cb := cb) (hp := hp) (path0 := path0) (at_ := at_) hK
  rwa [Bool.decide_eq_true] at this
theorem cocase_rule (pre : RulePre p N t l E K at_) (ho : t.op = 7) :
    ACalls Tryz.prog 197 [ptr0 cb, envAV l, t.av, intsAV h at_] (CkHp hp cb p path0 false) (RulR p cb hp path0 at_ (typeK p.ds p.fs E K t)) := by
  obtain ⟨hv, hN, hC, he, hva, hat, hsm, hdl, hend, hfp, hx1⟩ := pre
  have hn := valid_node hva
  rw [node_7 ho, Bool.and_eq_true, Bool.and_eq_true] at hn
  have ha : t.args = [] := List.eq_nil_of_length_eq_zero (by have := fields_len hn.1; omega)
  have hal : t.args.length = 0 := by rw [ha]; rfl
  obtain ⟨ht1, ht2⟩ := data_ty hn.2.1
  have hcl := clsNames_len' hn.2.2
  have hvc := validC_mem (by rw [validT_eq, Bool.and_eq_true, Bool.and_eq_true] at hva; exact hva.2.2)
  obtain ⟨d, hd⟩ := someAt p.ds (t.ty - 1).toNat (by omega)
  have hxs : xtorsOf p.ds t.ty = d.xtors := by simp only [xtorsOf, hd, Option.map_some, Option.getD_some]
  have hco : d.codata = true := by
    have hd1 := hn.2.1
    simp only [dataB, codataB, hd, Option.map_some, Option.getD_some, Bool.and_eq_true, beq_iff_eq] at hd1; exact hd1.2
  refine acalls_fit (callable_of Tryz.func197 (by decide +kernel)) fun hfit => ?_
  have hcm : t.cls.length ≤ maxLen := by
    have h := hfit.2.2.1
    simp only [TermG.av, TermG.cs_eq, AV.fit, AV.fits] at h
    exact fit_lst (f := ClauseG.av) (sz := 7) (h := t.hc) (l := t.cls) (by simpa [AV.fit] using h.2.2.2.2.2.1)
  clear hfit
  refine acalls_of Tryz.func197 rfl (by decide +kernel) (awp_sound (mu := []) _ _ _ ?_)
  simp only [go_sem, Nat.reduceEqDiff, Nat.reduceAdd, Nat.reduceSub, Nat.reduceLT, Nat.reduceMul, Nat.reduceBEq, Nat.reduceLeDiff, ↓reduceIte, Int.reduceToNat, Nat.reduceGT, Int.reduceLE, Int.reduceLT, Int.reduceGE, Int.reduceGT, Int.reduceEq, Int.reduceNe, reduceCtorEq, TermG.av, TermG.cs_eq]
  intro q1
  refine aw_loopX 48 (fun x : Nat × List Int => [(0, ptr0 cb), (1, envAV l), (3, intsAV h at_), (6, .ref q1 [.v (.int .i64 t.op), .v (.int .i64 t.n), .v (.string (bs t.name)), .v (.int .i64 t.ty), .lst 6 t.ha (t.args.map TermG.av), .lst 7 t.hc (t.cls.map ClauseG.av)]), (10, .v (.bool (decide (x.2 = ((xtorsOf p.ds t.ty).take x.1).map resX)))), (15, .lst 7 t.hc (t.cls.map ClauseG.av)), (16, .v (.int .i64 t.cls.length)), (17, .v (.int .i64 x.1))])
    (fun _ => CkHp hp cb p path0 false) (fun x => x.1 ≤ t.cls.length ∧ x.2.length = x.1 ∧ typeC p.ds p.fs E K (xtorsOf p.ds t.ty) 0 t.cls = preO x.2 (typeC p.ds p.fs E K ((xtorsOf p.ds t.ty).drop x.1) x.1 (t.cls.drop x.1))) (fun x => t.cls.length - x.1) (0, [])
    ⟨Nat.zero_le _, rfl, by cases e : typeC p.ds p.fs E K (xtorsOf p.ds t.ty) 0 t.cls <;> simp [preO, e]⟩ (le_mkSl rfl (Hp.le_refl _) (by simp [go_sem])) ?_
  rintro ⟨k, got⟩ ⟨hk, hgl, hty⟩
  simp only at hk hgl hty
  refine awp_sound (mu := []) _ _ _ ?_
  simp only [go_sem, Nat.reduceEqDiff, Nat.reduceAdd, Nat.reduceSub, Nat.reduceLT, Nat.reduceMul, Nat.reduceBEq, Nat.reduceLeDiff, ↓reduceIte, Int.reduceToNat, Nat.reduceGT, Int.reduceLE, Int.reduceLT, Int.reduceGE, Int.reduceGT, Int.reduceEq, Int.reduceNe, reduceCtorEq]
  refine brK_mk (fun b1 => ?_) (fun b1 => ?_) <;> simp only [go_sem, Nat.reduceEqDiff, Nat.reduceAdd, Nat.reduceSub, Nat.reduceLT, Nat.reduceMul, Nat.reduceBEq, Nat.reduceLeDiff, ↓reduceIte, Int.reduceToNat, Nat.reduceGT, Int.reduceLE, Int.reduceLT, Int.reduceGE, Int.reduceGT, Int.reduceEq, Int.reduceNe, reduceCtorEq, b1]
  · have hk' : k < t.cls.length := by simpa using b1
    obtain ⟨c, hc⟩ := someAt t.cls k hk'
    obtain ⟨x, hx⟩ := someAt (xtorsOf p.ds t.ty) k (by omega)
    have hmc := List.mem_of_getElem? hc
    have hnm := clsNames_at hn.2.2 hx hc
    have hwu := upK k _ hk' hcm
    have hx' : d.xtors[k]? = some x := by rw [← hxs]; exact hx
    have hne := hend d (List.mem_of_getElem? hd) hco x (List.mem_of_getElem? hx')
    have htk : ((xtorsOf p.ds t.ty).take (k + 1)).map resX = ((xtorsOf p.ds t.ty).take k).map resX ++ [resX x] := by rw [List.take_add_one, hx]; simp
    rw [dropK hc, dropK hx, typeC_cons] at hty
    have hvb : validT p.ds p.pf (domB (bindE E c.names (prodsX x))) (domB K) c.body = true := by rw [dom_bind _ _ _ (by rw [prods_len]; exact hnm)]; exact hvc c hmc
    refine draw_by (mu := []) (fun _ => True) (.take 0 (.take 1 (.take 2 (.take 3 (.take 4 (.take 6 (.take 7 (.take 8 (.br 5 (.br 9 (.take 10 (.take 11 (.take 12 (.take 13 (.take 14 (.done)))))) (.stop)) (.stop)))))))))) (by decide +kernel) trivial (by decide +kernel) (by decide +kernel) ?_
    simp only [go_sem, Nat.reduceEqDiff, Nat.reduceAdd, Nat.reduceSub, Nat.reduceLT, Nat.reduceMul, Nat.reduceBEq, Nat.reduceLeDiff, ↓reduceIte, Int.reduceToNat, Nat.reduceGT, Int.reduceLE, Int.reduceLT, Int.reduceGE, Int.reduceGT, Int.reduceEq, Int.reduceNe, reduceCtorEq]
    have c0 := bound_calls (hp := hp) (cb := cb) (path := path0) (found := false) hsm hdl l he t ht1 ht2 k hx hc hnm
    simp only [TermG.av, TermG.cs_eq] at c0
    refine callX_by c0 ?_
    clear c0
    rintro r hp1 ⟨l', rfl, he', rfl⟩
    simp only [go_sem, Nat.reduceEqDiff, Nat.reduceAdd, Nat.reduceSub, Nat.reduceLT, Nat.reduceMul, Nat.reduceBEq, Nat.reduceLeDiff, ↓reduceIte, Int.reduceToNat, Nat.reduceGT, Int.reduceLE, Int.reduceLT, Int.reduceGE, Int.reduceGT, Int.reduceEq, Int.reduceNe, reduceCtorEq]
    have c := body_calls (hp := hp) (cb := cb) (path0 := path0) hv t k hc (hC c hmc) he' hvb h at_ (by have := depth_cls hmc; omega) (by simp only [maxLen] at hcm; omega)
    rw [show ((t.args.length + k : Nat) : Int) = (k : Int) by omega] at c
    simp only [TermG.av, TermG.cs_eq, intsAV] at c
    simp only [intsAV]
    refine callX_by c ?_
    clear c
    rintro r hp1 hR
    cases e : typeT p.ds p.fs (bindE E c.names (prodsX x)) K c.body with
    | error q =>
      rw [e] at hR hty
      obtain ⟨n, hq, rfl, rfl⟩ := hR
      simp only [go_sem, Nat.reduceEqDiff, Nat.reduceAdd, Nat.reduceSub, Nat.reduceLT, Nat.reduceMul, Nat.reduceBEq, Nat.reduceLeDiff, ↓reduceIte, Int.reduceToNat, Nat.reduceGT, Int.reduceLE, Int.reduceLT, Int.reduceGE, Int.reduceGT, Int.reduceEq, Int.reduceNe, reduceCtorEq]
      exact ret_same (by rw [typeK_cls7 ha, hty]; exact ⟨0, hq, rfl, rfl⟩)
    | ok n =>
      rw [e] at hR hty
      obtain ⟨rfl, rfl⟩ := hR
      simp only at hty
      have hty2 : typeC p.ds p.fs E K (xtorsOf p.ds t.ty) 0 t.cls = preO (got ++ [n]) (typeC p.ds p.fs E K ((xtorsOf p.ds t.ty).drop (k + 1)) (k + 1) (t.cls.drop (k + 1))) := by
        rw [hty]
        cases typeC p.ds p.fs E K ((xtorsOf p.ds t.ty).drop (k + 1)) (k + 1) (t.cls.drop (k + 1)) with
        | ok l => simp [preO]
        | error q => rfl
      have hdec : (decide (got = ((xtorsOf p.ds t.ty).take k).map resX) && decide (n = resX x)) = decide (got ++ [n] = ((xtorsOf p.ds t.ty).take (k + 1)).map resX) := by
        rw [htk, Bool.eq_iff_iff]
        simp only [Bool.and_eq_true, decide_eq_true_eq]
        constructor
        · rintro ⟨h1, h2⟩; rw [h1, h2]
        · intro hh
          have := List.append_inj hh (by rw [hgl, List.length_map, List.length_take]; omega)
          exact ⟨this.1, by simpa using this.2⟩
      simp only [go_sem, Nat.reduceEqDiff, Nat.reduceAdd, Nat.reduceSub, Nat.reduceLT, Nat.reduceMul, Nat.reduceBEq, Nat.reduceLeDiff, ↓reduceIte, Int.reduceToNat, Nat.reduceGT, Int.reduceLE, Int.reduceLT, Int.reduceGE, Int.reduceGT, Int.reduceEq, Int.reduceNe, reduceCtorEq]
      refine brK_mk (fun b2 => ?_) (fun b2 => ?_) <;> simp only [go_sem, Nat.reduceEqDiff, Nat.reduceAdd, Nat.reduceSub, Nat.reduceLT, Nat.reduceMul, Nat.reduceBEq, Nat.reduceLeDiff, ↓reduceIte, Int.reduceToNat, Nat.reduceGT, Int.reduceLE, Int.reduceLT, Int.reduceGE, Int.reduceGT, Int.reduceEq, Int.reduceNe, reduceCtorEq, b2, hwu]
      · rw [b2, Bool.true_and] at hdec
        have c0 := result1_calls (hp := hp) (cb := cb) (path := path0) (found := false) hsm hdl t ht1 ht2 k hx hne
        simp only [TermG.av, TermG.cs_eq] at c0
        refine callX_by c0 ?_
        clear c0
        rintro r hp1 ⟨rfl, rfl⟩
        simp only [go_sem, Nat.reduceEqDiff, Nat.reduceAdd, Nat.reduceSub, Nat.reduceLT, Nat.reduceMul, Nat.reduceBEq, Nat.reduceLeDiff, ↓reduceIte, Int.reduceToNat, Nat.reduceGT, Int.reduceLE, Int.reduceLT, Int.reduceGE, Int.reduceGT, Int.reduceEq, Int.reduceNe, reduceCtorEq, hwu]
        exact ⟨(k + 1, got ++ [n]), by simp only; omega, ⟨by simp only; omega, by simp [hgl], hty2⟩, le_mkSl rfl (Hp.le_refl _) (by simp only [go_sem, ← hdec]; simp [go_sem, hwu])⟩
      · rw [b2, Bool.false_and] at hdec
        exact ⟨(k + 1, got ++ [n]), by simp only; omega, ⟨by simp only; omega, by simp [hgl], hty2⟩, le_mkSl rfl (Hp.le_refl _) (by simp only [go_sem, ← hdec]; simp [go_sem, hwu])⟩
  · have e : k = t.cls.length := by simp at b1; omega
    subst e
    rw [List.drop_of_length_le (Nat.le_refl _), typeC_nil] at hty
    rw [← hcl, List.take_length]
    exact ret_same (rulR_if (by rw [typeK_cls7 ha, hty]; simp only [preO, List.append_nil, ruleT, ho]; by_cases hg : got = (xtorsOf p.ds t.ty).map resX <;> simp [hg]))
theorem cases_rule (pre : RulePre p N t l E K at_) (ho : t.op = 5) :
    ACalls Tryz.prog 195 [ptr0 cb, envAV l, t.av, intsAV h at_] (CkHp hp cb p path0 false) (RulR p cb hp path0 at_ (typeK p.ds p.fs E K t)) := by
  obtain ⟨hv, hN, hC, he, hva, hat, hsm, hdl, hend, hfp, hx1⟩ := pre
  have hn := valid_node hva
  rw [node_5 ho, Bool.and_eq_true, Bool.and_eq_true] at hn
  obtain ⟨a, ha⟩ := len1 (l := t.args) (by have := fields_len hn.1; omega)
  have hal : t.args.length = 1 := by rw [ha]; rfl
  obtain ⟨ht1, ht2⟩ := data_ty hn.2.1
  have hcl := clsNames_len' hn.2.2
  have hvc := validC_mem (by rw [validT_eq, Bool.and_eq_true, Bool.and_eq_true] at hva; exact hva.2.2)
  have hvm := validA_mem (by rw [ho]; decide) (by rw [ho]; decide) hva
  obtain ⟨d, hd⟩ := someAt p.ds (t.ty - 1).toNat (by omega)
  have hxs : xtorsOf p.ds t.ty = d.xtors := by simp only [xtorsOf, hd, Option.map_some, Option.getD_some]
  have hpos : 0 < t.cls.length := by rw [← hcl, hxs]; exact List.length_pos_iff.2 (hx1 d (List.mem_of_getElem? hd))
  refine acalls_fit (callable_of Tryz.func195 (by decide +kernel)) fun hfit => ?_
  have hcm : t.cls.length ≤ maxLen := by
    have h := hfit.2.2.1
    simp only [TermG.av, TermG.cs_eq, AV.fit, AV.fits] at h
    exact fit_lst (f := ClauseG.av) (sz := 7) (h := t.hc) (l := t.cls) (by simpa [AV.fit] using h.2.2.2.2.2.1)
  clear hfit
  have hK : ∀ n0, typeT p.ds p.fs E K a = .ok n0 → typeK p.ds p.fs E K t = match typeC p.ds p.fs E K (xtorsOf p.ds t.ty) 1 t.cls with
      | .error q => .deep q
      | .ok l => match ruleT p.ds p.fs E K t (n0 :: l) with
        | some r => .good r
        | none => .bad := fun n0 e0 => by
    rw [typeK, ha]; simp only [typeA_cons, typeA_nil, argE_id (show t.op ≠ 8 by rw [ho]; decide), argK_id (show t.op ≠ 11 by rw [ho]; decide), e0]; rfl
  refine acalls_of Tryz.func195 rfl (by decide +kernel) (awp_sound (mu := []) _ _ _ ?_)
  simp only [go_sem, Nat.reduceEqDiff, Nat.reduceAdd, Nat.reduceSub, Nat.reduceLT, Nat.reduceMul, Nat.reduceBEq, Nat.reduceLeDiff, ↓reduceIte, Int.reduceToNat, Nat.reduceGT, Int.reduceLE, Int.reduceLT, Int.reduceGE, Int.reduceGT, Int.reduceEq, Int.reduceNe, reduceCtorEq, TermG.av, TermG.cs_eq]
  intro q1
  have c := arg_calls (hp := hp) (cb := cb) (path0 := path0) hv t 0 (a := a) (by rw [ha]; rfl) (hN a (by rw [ha]; simp)) he (hvm a (by rw [ha]; simp)) h at_ (by have := depth_arg (t := t) (a := a) (by rw [ha]; simp); omega)
  simp only [TermG.av, TermG.cs_eq] at c
  refine callX_by c ?_
  clear c
  rintro r hp1 hR
  cases e0 : typeT p.ds p.fs E K a with
  | error q =>
    rw [e0] at hR
    obtain ⟨n', hq, rfl, rfl⟩ := hR
    simp only [go_sem, Nat.reduceEqDiff, Nat.reduceAdd, Nat.reduceSub, Nat.reduceLT, Nat.reduceMul, Nat.reduceBEq, Nat.reduceLeDiff, ↓reduceIte, Int.reduceToNat, Nat.reduceGT, Int.reduceLE, Int.reduceLT, Int.reduceGE, Int.reduceGT, Int.reduceEq, Int.reduceNe, reduceCtorEq]
    exact ret_same (by rw [show typeK p.ds p.fs E K t = .deep ((0 : Nat) :: q) from by rw [typeK, ha]; simp only [typeA_cons, typeA_nil, argE_id (show t.op ≠ 8 by rw [ho]; decide), argK_id (show t.op ≠ 11 by rw [ho]; decide), e0]]; exact ⟨0, hq, rfl, rfl⟩)
  | ok n0 =>
    rw [e0] at hR
    obtain ⟨rfl, rfl⟩ := hR
    simp only [go_sem, Nat.reduceEqDiff, Nat.reduceAdd, Nat.reduceSub, Nat.reduceLT, Nat.reduceMul, Nat.reduceBEq, Nat.reduceLeDiff, ↓reduceIte, Int.reduceToNat, Nat.reduceGT, Int.reduceLE, Int.reduceLT, Int.reduceGE, Int.reduceGT, Int.reduceEq, Int.reduceNe, reduceCtorEq]
    refine draw_by (mu := []) (fun _ => True) (.take 0 (.take 1 (.take 2 (.take 3 (.take 4 (.take 5 (.done))))))) (by decide +kernel) trivial (by decide +kernel) (by decide +kernel) ?_
    simp only [go_sem, Nat.reduceEqDiff, Nat.reduceAdd, Nat.reduceSub, Nat.reduceLT, Nat.reduceMul, Nat.reduceBEq, Nat.reduceLeDiff, ↓reduceIte, Int.reduceToNat, Nat.reduceGT, Int.reduceLE, Int.reduceLT, Int.reduceGE, Int.reduceGT, Int.reduceEq, Int.reduceNe, reduceCtorEq]
    refine aw_loopX 64 (fun x : Nat × List Int => [(0, ptr0 cb), (1, envAV l), (3, intsAV h at_), (6, .ref q1 [.v (.int .i64 t.op), .v (.int .i64 t.n), .v (.string (bs t.name)), .v (.int .i64 t.ty), .lst 6 t.ha (t.args.map TermG.av), .lst 7 t.hc (t.cls.map ClauseG.av)]), (12, .v (.int .i64 (x.2.headD 0))), (13, .v (.bool (decide (n0 = t.ty) && x.2.all fun u => decide (u = x.2.headD 0)))), (32, .lst 7 t.hc (t.cls.map ClauseG.av)), (33, .v (.int .i64 t.cls.length)), (34, .v (.int .i64 x.1))])
      (fun _ => CkHp hp cb p path0 false) (fun x => x.1 ≤ t.cls.length ∧ x.2.length = x.1 ∧ typeC p.ds p.fs E K (xtorsOf p.ds t.ty) 1 t.cls = preO x.2 (typeC p.ds p.fs E K ((xtorsOf p.ds t.ty).drop x.1) (1 + x.1) (t.cls.drop x.1))) (fun x => t.cls.length - x.1) (0, [])
      ⟨Nat.zero_le _, rfl, by cases e : typeC p.ds p.fs E K (xtorsOf p.ds t.ty) 1 t.cls <;> simp [preO, e]⟩ (le_mkSl rfl (Hp.le_refl _) (by simp [go_sem])) ?_
    rintro ⟨k, got⟩ ⟨hk, hgl, hty⟩
    simp only at hk hgl hty
    refine awp_sound (mu := []) _ _ _ ?_
    simp only [go_sem, Nat.reduceEqDiff, Nat.reduceAdd, Nat.reduceSub, Nat.reduceLT, Nat.reduceMul, Nat.reduceBEq, Nat.reduceLeDiff, ↓reduceIte, Int.reduceToNat, Nat.reduceGT, Int.reduceLE, Int.reduceLT, Int.reduceGE, Int.reduceGT, Int.reduceEq, Int.reduceNe, reduceCtorEq]
    refine brK_mk (fun b1 => ?_) (fun b1 => ?_) <;> simp only [go_sem, Nat.reduceEqDiff, Nat.reduceAdd, Nat.reduceSub, Nat.reduceLT, Nat.reduceMul, Nat.reduceBEq, Nat.reduceLeDiff, ↓reduceIte, Int.reduceToNat, Nat.reduceGT, Int.reduceLE, Int.reduceLT, Int.reduceGE, Int.reduceGT, Int.reduceEq, Int.reduceNe, reduceCtorEq, b1]
    · have hk' : k < t.cls.length := by simpa using b1
      obtain ⟨c, hc⟩ := someAt t.cls k hk'
      obtain ⟨x, hx⟩ := someAt (xtorsOf p.ds t.ty) k (by omega)
      have hmc := List.mem_of_getElem? hc
      have hnm := clsNames_at hn.2.2 hx hc
      have hwu := upK k _ hk' hcm
      rw [dropK hc, dropK hx, typeC_cons] at hty
      have hvb : validT p.ds p.pf (domB (bindE E c.names (prodsX x))) (domB K) c.body = true := by rw [dom_bind _ _ _ (by rw [prods_len]; exact hnm)]; exact hvc c hmc
      refine draw_by (mu := []) (fun _ => True) (.take 0 (.take 1 (.take 2 (.take 3 (.take 4 (.take 6 (.take 7 (.take 8 (.br 5 (.br 9 (.take 10 (.take 11 (.take 12 (.take 13 (.take 14 (.done)))))) (.stop)) (.stop)))))))))) (by decide +kernel) trivial (by decide +kernel) (by decide +kernel) ?_
      simp only [go_sem, Nat.reduceEqDiff, Nat.reduceAdd, Nat.reduceSub, Nat.reduceLT, Nat.reduceMul, Nat.reduceBEq, Nat.reduceLeDiff, ↓reduceIte, Int.reduceToNat, Nat.reduceGT, Int.reduceLE, Int.reduceLT, Int.reduceGE, Int.reduceGT, Int.reduceEq, Int.reduceNe, reduceCtorEq]
      have c0 := bound_calls (hp := hp) (cb := cb) (path := path0) (found := false) hsm hdl l he t ht1 ht2 k hx hc hnm
      simp only [TermG.av, TermG.cs_eq] at c0
      refine callX_by c0 ?_
      clear c0
      rintro r hp1 ⟨l', rfl, he', rfl⟩
      simp only [go_sem, Nat.reduceEqDiff, Nat.reduceAdd, Nat.reduceSub, Nat.reduceLT, Nat.reduceMul, Nat.reduceBEq, Nat.reduceLeDiff, ↓reduceIte, Int.reduceToNat, Nat.reduceGT, Int.reduceLE, Int.reduceLT, Int.reduceGE, Int.reduceGT, Int.reduceEq, Int.reduceNe, reduceCtorEq]
      have c := body_calls (hp := hp) (cb := cb) (path0 := path0) hv t k hc (hC c hmc) he' hvb h at_ (by have := depth_cls hmc; omega) (by simp only [maxLen] at hcm; omega)
      rw [hal] at c
      simp only [TermG.av, TermG.cs_eq, intsAV] at c
      simp only [intsAV]
      refine callX_by c ?_
      clear c
      rintro r hp1 hR
      cases e : typeT p.ds p.fs (bindE E c.names (prodsX x)) K c.body with
      | error q =>
        rw [e] at hR hty
        obtain ⟨n, hq, rfl, rfl⟩ := hR
        simp only [go_sem, Nat.reduceEqDiff, Nat.reduceAdd, Nat.reduceSub, Nat.reduceLT, Nat.reduceMul, Nat.reduceBEq, Nat.reduceLeDiff, ↓reduceIte, Int.reduceToNat, Nat.reduceGT, Int.reduceLE, Int.reduceLT, Int.reduceGE, Int.reduceGT, Int.reduceEq, Int.reduceNe, reduceCtorEq]
        exact ret_same (by rw [hK n0 e0, hty]; exact ⟨0, hq, rfl, rfl⟩)
      | ok n =>
        rw [e] at hR hty
        obtain ⟨rfl, rfl⟩ := hR
        simp only at hty
        have hty2 : typeC p.ds p.fs E K (xtorsOf p.ds t.ty) 1 t.cls = preO (got ++ [n]) (typeC p.ds p.fs E K ((xtorsOf p.ds t.ty).drop (k + 1)) (1 + (k + 1)) (t.cls.drop (k + 1))) := by
          rw [hty, show 1 + k + 1 = 1 + (k + 1) by omega]
          cases typeC p.ds p.fs E K ((xtorsOf p.ds t.ty).drop (k + 1)) (1 + (k + 1)) (t.cls.drop (k + 1)) with
          | ok l => simp [preO]
          | error q => rfl
        have hhd : (if decide ((k : Int) = 0) = true then n else got.headD 0) = (got ++ [n]).headD 0 := by
          cases got with
          | nil => simp at hgl; simp [← hgl]
          | cons g r => simp at hgl; simp; omega
        have hall : ((decide (n0 = t.ty) && got.all fun u => decide (u = got.headD 0)) && decide (n = (got ++ [n]).headD 0)) = (decide (n0 = t.ty) && (got ++ [n]).all fun u => decide (u = (got ++ [n]).headD 0)) := by
          cases got with
          | nil => simp
          | cons g r => simp [Bool.and_assoc]
        simp only [go_sem, Nat.reduceEqDiff, Nat.reduceAdd, Nat.reduceSub, Nat.reduceLT, Nat.reduceMul, Nat.reduceBEq, Nat.reduceLeDiff, ↓reduceIte, Int.reduceToNat, Nat.reduceGT, Int.reduceLE, Int.reduceLT, Int.reduceGE, Int.reduceGT, Int.reduceEq, Int.reduceNe, reduceCtorEq]
        generalize hm : (got ++ [n]).headD 0 = m at hhd hall
        refine brK_mk (fun b2 => ?_) (fun b2 => ?_) <;> rw [b2] at hhd <;> simp only [if_true, if_false, Bool.false_eq_true, reduceIte] at hhd <;> subst hhd <;> simp only [go_sem, Nat.reduceEqDiff, Nat.reduceAdd, Nat.reduceSub, Nat.reduceLT, Nat.reduceMul, Nat.reduceBEq, Nat.reduceLeDiff, ↓reduceIte, Int.reduceToNat, Nat.reduceGT, Int.reduceLE, Int.reduceLT, Int.reduceGE, Int.reduceGT, Int.reduceEq, Int.reduceNe, reduceCtorEq, b2, hwu]
        all_goals
          refine brK_mk (fun b3 => ?_) (fun b3 => ?_) <;> simp only [go_sem, Nat.reduceEqDiff, Nat.reduceAdd, Nat.reduceSub, Nat.reduceLT, Nat.reduceMul, Nat.reduceBEq, Nat.reduceLeDiff, ↓reduceIte, Int.reduceToNat, Nat.reduceGT, Int.reduceLE, Int.reduceLT, Int.reduceGE, Int.reduceGT, Int.reduceEq, Int.reduceNe, reduceCtorEq, b3, hwu]
          · rw [b3, Bool.true_and] at hall
            exact ⟨(k + 1, got ++ [n]), by simp only; omega, ⟨by simp only; omega, by simp [hgl], hty2⟩, le_mkSl rfl (Hp.le_refl _) (by simp only [go_sem, hm, ← hall]; simp [go_sem, hwu])⟩
          · rw [b3, Bool.false_and] at hall
            exact ⟨(k + 1, got ++ [n]), by simp only; omega, ⟨by simp only; omega, by simp [hgl], hty2⟩, le_mkSl rfl (Hp.le_refl _) (by simp only [go_sem, hm, ← hall]; simp [go_sem, hwu])⟩
    · have e : k = t.cls.length := by simp at b1; omega
      subst e
      rw [List.drop_of_length_le (Nat.le_refl _), typeC_nil] at hty
      match got, hgl with
      | [], hgl => simp at hgl; omega
      | g :: r, _ =>
        have hA : ((g :: r).all fun u => decide (u = (g :: r).headD 0)) = r.all fun u => decide (u = g) := by simp only [List.headD_cons, List.all_cons, decide_true, Bool.true_and] <;> rfl
        exact ret_same (rulR_b (by
          rw [hK n0 e0, hty, hA]
          simp only [preO, List.append_nil, ruleT, ho]
          cases r.all fun u => decide (u = g)
          all_goals by_cases hg1 : n0 = t.ty <;> simp [hg1]))
end
end Go.Proofs.YtkoachnlimebaaaGreatDoor
