/- The reference of the layer 'check': rule. -/
import Derived.Test.YtppoacgeiooppaaGreatCT32
set_option linter.unusedSimpArgs false
set_option linter.unusedVariables false
set_option maxRecDepth 20000
set_option maxHeartbeats 4000000
namespace Go.Proofs.YtppoacgeiooppaaGreat
open Go.AL

theorem rall_calls (ha hb : Value) (a b : List Int) (hp : Hp) : ACalls Tryz.prog 122 [intsAV ha a, intsAV hb b] hp (fun r hp' => r = .v (.bool (decide (a = b))) ∧ hp' = hp) := by
  refine acalls_of Tryz.func122 rfl (by decide +kernel) (awp_sound (mu := []) _ _ _ ?_)
  simp only [go_sem, Nat.reduceEqDiff, Nat.reduceAdd, Nat.reduceSub, Nat.reduceLT, Nat.reduceMul, Nat.reduceBEq, Nat.reduceLeDiff, ↓reduceIte, Int.reduceToNat, Nat.reduceGT, Int.reduceLE, Int.reduceLT, Int.reduceGE, Int.reduceGT, Int.reduceEq, Int.reduceNe, reduceCtorEq, intsAV]
  have c := sameInts_calls ha hb a b hp
  simp only [intsAV] at c
  refine callX_by c ?_
  rintro r hp1 ⟨rfl, rfl⟩
  simp only [go_sem, Nat.reduceEqDiff, Nat.reduceAdd, Nat.reduceSub, Nat.reduceLT, Nat.reduceMul, Nat.reduceBEq, Nat.reduceLeDiff, ↓reduceIte, Int.reduceToNat, Nat.reduceGT, Int.reduceLE, Int.reduceLT, Int.reduceGE, Int.reduceGT, Int.reduceEq, Int.reduceNe, reduceCtorEq]
  exact ret_same ⟨rfl, rfl⟩
def RuleR (o : Option Int) (hp : Hp) (r : AV) (hp' : Hp) : Prop := hp' = hp ∧ ∃ n, r = .tup [.v (.int .i64 n), .v (.bool o.isSome)] ∧ ∀ v, o = some v → v = n
theorem ruleR_of {o : Option Int} {hp : Hp} {n : Int} {b : Bool} (h : o = if b = true then some n else none) : RuleR o hp (.tup [.v (.int .i64 n), .v (.bool b)]) hp := by
  refine ⟨rfl, n, ?_, ?_⟩
  · rw [h]; cases b <;> rfl
  · intro v hv; rw [h] at hv; cases b
    · cases hv
    · exact (Option.some.inj hv).symm
theorem ruleR_no {o : Option Int} {hp : Hp} {n : Int} (h : o = none) : RuleR o hp (.tup [.v (.int .i64 n), .v (.bool false)]) hp := ruleR_of (b := false) (by rw [h]; rfl)
theorem ruleR_yes {o : Option Int} {hp : Hp} {n : Int} (h : o = some n) : RuleR o hp (.tup [.v (.int .i64 n), .v (.bool true)]) hp := ruleR_of (b := true) (by rw [h]; rfl)
theorem kids_len (t : TermG) : (kids t).length = t.args.length + t.cls.length := by rw [kids, List.length_append, List.length_map]
theorem domV {E : Bytes → Option Int} {s : Bytes} (h : domB E s = true) : ∃ v, E s = some v := Option.isSome_iff_exists.1 h
theorem intAt (l : List Int) (k : Nat) (n : Int) (h : l[k]? = some n) : (l.map iv)[k]? = some (.v (.int .i64 n)) := mapAt iv _ _ _ h
theorem ne_at {l l' : List Int} {k : Nat} {a b : Int} (h1 : l[k]? = some a) (h2 : l'[k]? = some b) (h : ¬ a = b) : ¬ l = l' := by
  rintro rfl; rw [h1] at h2; exact h (Option.some.inj h2)
theorem ruleT_7 {ds : List DeclG} {fs : List FunG} {E K : Bytes → Option Int} {t : TermG} {got : List Int} (ho : t.op = 7) : ruleT ds fs E K t got = if got = (xtorsOf ds t.ty).map resX then some t.ty else none := by simp only [ruleT, ho]; rfl
theorem ruleT_9 {ds : List DeclG} {fs : List FunG} {E K : Bytes → Option Int} {t : TermG} {got : List Int} {f : FunG} (ho : t.op = 9) (hf : fs[t.n.toNat]? = some f) : ruleT ds fs E K t got = if got = f.params.map ParamG.ty then some f.res else none := by simp only [ruleT, ho, hf]; rfl
theorem ruleT_5 {ds : List DeclG} {fs : List FunG} {E K : Bytes → Option Int} {t : TermG} {a b : Int} {r : List Int} (ho : t.op = 5) : ruleT ds fs E K t (a :: b :: r) = if a = t.ty ∧ r.all (fun u => decide (u = b)) = true then some b else none := by simp only [ruleT, ho]; rfl
structure RuleH (p : ProgG) (s : ScG) (t : TermG) (got : List Int) : Prop where
  ok : ProgOk p
  hn : nodeB p.ds p.pf (domB (envP s.V)) (domB (envP s.L)) t = true
  hlen : got.length = (kids t).length
section
variable {p : ProgG} {s : ScG} {t : TermG} {got : List Int} {hg : Value} {hp : Hp}
theorem rule_var (pre : RuleH p s t got) (ho : t.op = 0) (hp : Hp) : ACalls Tryz.prog 78 [p.av, s.av, t.av, intsAV hg got] hp (RuleR (ruleT p.ds p.fs (envP s.V) (envP s.L) t got) hp) := by
  obtain ⟨ok, hn, hlen⟩ := pre
  rw [kids_len] at hlen
  have hc := node_nocls (by rw [ho]; decide) (by rw [ho]; decide) hn
  rw [node_0 ho (by rw [hc]; rfl), Bool.and_eq_true] at hn
  obtain ⟨v, hv⟩ := domV hn.2
  refine acalls_of Tryz.func78 rfl (by decide +kernel) (awp_sound (mu := []) _ _ _ ?_)
  simp only [go_sem, Nat.reduceEqDiff, Nat.reduceAdd, Nat.reduceSub, Nat.reduceLT, Nat.reduceMul, Nat.reduceBEq, Nat.reduceLeDiff, ↓reduceIte, Int.reduceToNat, Nat.reduceGT, Int.reduceLE, Int.reduceLT, Int.reduceGE, Int.reduceGT, Int.reduceEq, Int.reduceNe, reduceCtorEq, TermG.av, TermG.cs_eq, ProgG.av, ProgG.cs, declsAV, funsAV, ScG.av, ScG.cs, intsAV, paramsAV]
  intro q1 q2 q3
  simp only [go_sem, Nat.reduceEqDiff, Nat.reduceAdd, Nat.reduceSub, Nat.reduceLT, Nat.reduceMul, Nat.reduceBEq, Nat.reduceLeDiff, ↓reduceIte, Int.reduceToNat, Nat.reduceGT, Int.reduceLE, Int.reduceLT, Int.reduceGE, Int.reduceGT, Int.reduceEq, Int.reduceNe, reduceCtorEq, ho]
  have c := rfind_P_calls s.hv s.V t.name hp
  simp only [paramsAV] at c
  refine callX_by c ?_
  rintro r hp1 ⟨rfl, rfl⟩
  simp only [go_sem, Nat.reduceEqDiff, Nat.reduceAdd, Nat.reduceSub, Nat.reduceLT, Nat.reduceMul, Nat.reduceBEq, Nat.reduceLeDiff, ↓reduceIte, Int.reduceToNat, Nat.reduceGT, Int.reduceLE, Int.reduceLT, Int.reduceGE, Int.reduceGT, Int.reduceEq, Int.reduceNe, reduceCtorEq]
  exact ret_same (ruleR_yes (by simp only [ruleT, ho, hv]; rfl))
theorem rule_int (pre : RuleH p s t got) (ho : t.op = 1) (hp : Hp) : ACalls Tryz.prog 78 [p.av, s.av, t.av, intsAV hg got] hp (RuleR (ruleT p.ds p.fs (envP s.V) (envP s.L) t got) hp) := by
  obtain ⟨ok, hn, hlen⟩ := pre
  rw [kids_len] at hlen
  refine acalls_of Tryz.func78 rfl (by decide +kernel) (awp_sound (mu := []) _ _ _ ?_)
  simp only [go_sem, Nat.reduceEqDiff, Nat.reduceAdd, Nat.reduceSub, Nat.reduceLT, Nat.reduceMul, Nat.reduceBEq, Nat.reduceLeDiff, ↓reduceIte, Int.reduceToNat, Nat.reduceGT, Int.reduceLE, Int.reduceLT, Int.reduceGE, Int.reduceGT, Int.reduceEq, Int.reduceNe, reduceCtorEq, TermG.av, TermG.cs_eq, ProgG.av, ProgG.cs, declsAV, funsAV, ScG.av, ScG.cs, intsAV, paramsAV]
  intro q1 q2 q3
  simp only [go_sem, Nat.reduceEqDiff, Nat.reduceAdd, Nat.reduceSub, Nat.reduceLT, Nat.reduceMul, Nat.reduceBEq, Nat.reduceLeDiff, ↓reduceIte, Int.reduceToNat, Nat.reduceGT, Int.reduceLE, Int.reduceLT, Int.reduceGE, Int.reduceGT, Int.reduceEq, Int.reduceNe, reduceCtorEq, ho]
  exact ret_same (ruleR_yes (by simp only [ruleT, ho]; rfl))
theorem rule_prim (pre : RuleH p s t got) (ho : t.op = 2) (hp : Hp) : ACalls Tryz.prog 78 [p.av, s.av, t.av, intsAV hg got] hp (RuleR (ruleT p.ds p.fs (envP s.V) (envP s.L) t got) hp) := by
  obtain ⟨ok, hn, hlen⟩ := pre
  rw [kids_len] at hlen
  refine acalls_of Tryz.func78 rfl (by decide +kernel) (awp_sound (mu := []) _ _ _ ?_)
  simp only [go_sem, Nat.reduceEqDiff, Nat.reduceAdd, Nat.reduceSub, Nat.reduceLT, Nat.reduceMul, Nat.reduceBEq, Nat.reduceLeDiff, ↓reduceIte, Int.reduceToNat, Nat.reduceGT, Int.reduceLE, Int.reduceLT, Int.reduceGE, Int.reduceGT, Int.reduceEq, Int.reduceNe, reduceCtorEq, TermG.av, TermG.cs_eq, ProgG.av, ProgG.cs, declsAV, funsAV, ScG.av, ScG.cs, intsAV, paramsAV]
  intro q1 q2 q3
  simp only [go_sem, Nat.reduceEqDiff, Nat.reduceAdd, Nat.reduceSub, Nat.reduceLT, Nat.reduceMul, Nat.reduceBEq, Nat.reduceLeDiff, ↓reduceIte, Int.reduceToNat, Nat.reduceGT, Int.reduceLE, Int.reduceLT, Int.reduceGE, Int.reduceGT, Int.reduceEq, Int.reduceNe, reduceCtorEq, ho]
  refine ⟨rfl, by simp, fun hd => ?_⟩
  try simp only [go_sem, Nat.reduceEqDiff, Nat.reduceAdd, Nat.reduceSub, Nat.reduceLT, Nat.reduceMul, Nat.reduceBEq, Nat.reduceLeDiff, ↓reduceIte, Int.reduceToNat, Nat.reduceGT, Int.reduceLE, Int.reduceLT, Int.reduceGE, Int.reduceGT, Int.reduceEq, Int.reduceNe, reduceCtorEq]
  have c := rall_calls hg hd got [0, 0] (hp.setSp ((3, 1, hd) :: hp.sp))
  simp only [intsAV, List.map_cons, List.map_nil, iv] at c ⊢
  refine callX_by c ?_
  rintro r hp1 ⟨rfl, rfl⟩
  simp only [go_sem, Nat.reduceEqDiff, Nat.reduceAdd, Nat.reduceSub, Nat.reduceLT, Nat.reduceMul, Nat.reduceBEq, Nat.reduceLeDiff, ↓reduceIte, Int.reduceToNat, Nat.reduceGT, Int.reduceLE, Int.reduceLT, Int.reduceGE, Int.reduceGT, Int.reduceEq, Int.reduceNe, reduceCtorEq]
  exact ret_le (Hp.le_addSp _ _) (ruleR_of (by simp only [ruleT, ho]; by_cases e : got = [0, 0] <;> simp [e]))
theorem rule_ifz (pre : RuleH p s t got) (ho : t.op = 3) (hp : Hp) : ACalls Tryz.prog 78 [p.av, s.av, t.av, intsAV hg got] hp (RuleR (ruleT p.ds p.fs (envP s.V) (envP s.L) t got) hp) := by
  obtain ⟨ok, hn, hlen⟩ := pre
  rw [kids_len] at hlen
  have hc := node_nocls (by rw [ho]; decide) (by rw [ho]; decide) hn
  have hal : t.args.length = 3 := by
    rw [node_3 ho (by rw [hc]; rfl)] at hn
    have := fields_len hn; omega
  obtain ⟨a, b, d, rfl⟩ := len3 (l := got) (by rw [hlen, hal, hc]; rfl)
  refine acalls_of Tryz.func78 rfl (by decide +kernel) (awp_sound (mu := []) _ _ _ ?_)
  simp only [go_sem, Nat.reduceEqDiff, Nat.reduceAdd, Nat.reduceSub, Nat.reduceLT, Nat.reduceMul, Nat.reduceBEq, Nat.reduceLeDiff, ↓reduceIte, Int.reduceToNat, Nat.reduceGT, Int.reduceLE, Int.reduceLT, Int.reduceGE, Int.reduceGT, Int.reduceEq, Int.reduceNe, reduceCtorEq, TermG.av, TermG.cs_eq, ProgG.av, ProgG.cs, declsAV, funsAV, ScG.av, ScG.cs, intsAV, paramsAV]
  intro q1 q2 q3
  simp only [go_sem, Nat.reduceEqDiff, Nat.reduceAdd, Nat.reduceSub, Nat.reduceLT, Nat.reduceMul, Nat.reduceBEq, Nat.reduceLeDiff, ↓reduceIte, Int.reduceToNat, Nat.reduceGT, Int.reduceLE, Int.reduceLT, Int.reduceGE, Int.reduceGT, Int.reduceEq, Int.reduceNe, reduceCtorEq, ho]
  refine draw_by (mu := []) (fun _ => True) (.take 0 (.take 1 (.take 2 (.take 3 (.take 4 (.take 5 (.take 6 (.take 7 (.take 8 (.take 9 (.take 10 (.take 11 (.take 12 (.take 13 (.take 14 (.take 15 (.take 16 (.take 17 (.done))))))))))))))))))) (by decide +kernel) trivial (by decide +kernel) (by decide +kernel) ?_
  simp only [go_sem, Nat.reduceEqDiff, Nat.reduceAdd, Nat.reduceSub, Nat.reduceLT, Nat.reduceMul, Nat.reduceBEq, Nat.reduceLeDiff, ↓reduceIte, Int.reduceToNat, Nat.reduceGT, Int.reduceLE, Int.reduceLT, Int.reduceGE, Int.reduceGT, Int.reduceEq, Int.reduceNe, reduceCtorEq, List.map_cons, List.map_nil, iv]
  refine brK_mk (fun b1 => ?_) (fun b1 => ?_) <;> simp only [go_sem, Nat.reduceEqDiff, Nat.reduceAdd, Nat.reduceSub, Nat.reduceLT, Nat.reduceMul, Nat.reduceBEq, Nat.reduceLeDiff, ↓reduceIte, Int.reduceToNat, Nat.reduceGT, Int.reduceLE, Int.reduceLT, Int.reduceGE, Int.reduceGT, Int.reduceEq, Int.reduceNe, reduceCtorEq, b1, List.map_cons, List.map_nil, iv]
  · have e := of_decide_eq_true b1
    exact ret_same (ruleR_of (by simp only [ruleT, ho]; by_cases e2 : b = d <;> simp [e, e2]))
  · have e := of_decide_eq_false b1
    exact ret_same (ruleR_of (by simp only [ruleT, ho]; simp [e]))
theorem rule_con (pre : RuleH p s t got) (ho : t.op = 4) (hp : Hp) : ACalls Tryz.prog 78 [p.av, s.av, t.av, intsAV hg got] hp (RuleR (ruleT p.ds p.fs (envP s.V) (envP s.L) t got) hp) := by
  obtain ⟨ok, hn, hlen⟩ := pre
  rw [kids_len] at hlen
  have hd1 : dataB p.ds t.ty false = true := by
    cases hd : dataB p.ds t.ty false with
    | true => rfl
    | false => rw [node_4d ho hd] at hn; cases hn
  have hh : hasN p.ds t.ty t.n = true := by
    cases hd : hasN p.ds t.ty t.n with
    | true => rfl
    | false => rw [node_4h ho hd] at hn; cases hn
  obtain ⟨ht1, ht2⟩ := data_ty hd1
  have hdl := ok.hdl
  have hwt : IntKind.i64.wrap (t.ty - 1) = t.ty - 1 := IntWalk.i64_in _ (by omega)
  obtain ⟨d, hd⟩ := someAt p.ds (t.ty - 1).toNat (by omega)
  have hxs : xtorsOf p.ds t.ty = d.xtors := by simp only [xtorsOf, hd, Option.map_some, Option.getD_some]
  have hnn : 0 ≤ t.n ∧ t.n < d.xtors.length := by
    simp only [hasN, hxs, Bool.and_eq_true, decide_eq_true_eq] at hh; exact ⟨hh.1.2, hh.2⟩
  obtain ⟨x, hx⟩ := someAt d.xtors t.n.toNat (by omega)
  have hx' : (xtorsOf p.ds t.ty)[t.n.toNat]? = some x := by rw [hxs]; exact hx
  have hxl := ok.hsm d (List.mem_of_getElem? hd) x (List.mem_of_getElem? hx)
  have hxa : xtorAt p.ds t.ty t.n = x := by rw [xtorAt, hx']; rfl
  refine acalls_of Tryz.func78 rfl (by decide +kernel) (awp_sound (mu := []) _ _ _ ?_)
  simp only [go_sem, Nat.reduceEqDiff, Nat.reduceAdd, Nat.reduceSub, Nat.reduceLT, Nat.reduceMul, Nat.reduceBEq, Nat.reduceLeDiff, ↓reduceIte, Int.reduceToNat, Nat.reduceGT, Int.reduceLE, Int.reduceLT, Int.reduceGE, Int.reduceGT, Int.reduceEq, Int.reduceNe, reduceCtorEq, TermG.av, TermG.cs_eq, ProgG.av, ProgG.cs, declsAV, funsAV, ScG.av, ScG.cs, intsAV, paramsAV]
  intro q1 q2 q3
  simp only [go_sem, Nat.reduceEqDiff, Nat.reduceAdd, Nat.reduceSub, Nat.reduceLT, Nat.reduceMul, Nat.reduceBEq, Nat.reduceLeDiff, ↓reduceIte, Int.reduceToNat, Nat.reduceGT, Int.reduceLE, Int.reduceLT, Int.reduceGE, Int.reduceGT, Int.reduceEq, Int.reduceNe, reduceCtorEq, ho]
  refine draw_by (mu := []) (fun _ => True) (.take 0 (.take 1 (.take 2 (.take 3 (.take 4 (.take 5 (.take 6 (.take 7 (.take 8 (.take 9 (.take 10 (.take 11 (.take 12 (.take 13 (.take 14 (.br 15 (.br 16 (.take 17 (.take 18 (.done))) (.stop)) (.stop))))))))))))))))) (by decide +kernel) trivial (by decide +kernel) (by decide +kernel) ?_
  simp only [go_sem, Nat.reduceEqDiff, Nat.reduceAdd, Nat.reduceSub, Nat.reduceLT, Nat.reduceMul, Nat.reduceBEq, Nat.reduceLeDiff, ↓reduceIte, Int.reduceToNat, Nat.reduceGT, Int.reduceLE, Int.reduceLT, Int.reduceGE, Int.reduceGT, Int.reduceEq, Int.reduceNe, reduceCtorEq, hwt, mapAt DeclG.av _ _ _ hd, DeclG.av, DeclG.cs, mapAt XtorG.av _ _ _ hx, XtorG.av, XtorG.cs]
  refine ⟨by omega, fun _ _ => by omega, hnn.1, fun _ _ => hnn.1, ?_⟩
  have c := fun hp => rproducers_calls x hxl hp
  simp only [XtorG.av, XtorG.cs] at c
  refine callX_by (c _) ?_
  clear c
  rintro r hp1 ⟨h31, rfl, rfl⟩
  have c := fun hp => rall_calls hg h31 got (prodsX x) hp
  simp only [intsAV] at c
  simp only [go_sem, Nat.reduceEqDiff, Nat.reduceAdd, Nat.reduceSub, Nat.reduceLT, Nat.reduceMul, Nat.reduceBEq, Nat.reduceLeDiff, ↓reduceIte, Int.reduceToNat, Nat.reduceGT, Int.reduceLE, Int.reduceLT, Int.reduceGE, Int.reduceGT, Int.reduceEq, Int.reduceNe, reduceCtorEq, intsAV]
  refine callX_by (c _) ?_
  clear c
  rintro r hp1 ⟨rfl, rfl⟩
  simp only [go_sem, Nat.reduceEqDiff, Nat.reduceAdd, Nat.reduceSub, Nat.reduceLT, Nat.reduceMul, Nat.reduceBEq, Nat.reduceLeDiff, ↓reduceIte, Int.reduceToNat, Nat.reduceGT, Int.reduceLE, Int.reduceLT, Int.reduceGE, Int.reduceGT, Int.reduceEq, Int.reduceNe, reduceCtorEq]
  exact ret_le (Hp.le_addSp _ _) (ruleR_of (by simp only [ruleT, ho, hxa]; by_cases e : got = prodsX x <;> simp [e]))
theorem rule_dtor (pre : RuleH p s t got) (ho : t.op = 6) (hp : Hp) : ACalls Tryz.prog 78 [p.av, s.av, t.av, intsAV hg got] hp (RuleR (ruleT p.ds p.fs (envP s.V) (envP s.L) t got) hp) := by
  obtain ⟨ok, hn, hlen⟩ := pre
  rw [kids_len] at hlen
  have hd1 : dataB p.ds t.ty true = true := by
    cases hd : dataB p.ds t.ty true with
    | true => rfl
    | false => rw [node_6d ho hd] at hn; cases hn
  have hh : hasN p.ds t.ty t.n = true := by
    cases hd : hasN p.ds t.ty t.n with
    | true => rfl
    | false => rw [node_6h ho hd] at hn; cases hn
  obtain ⟨ht1, ht2⟩ := data_ty hd1
  have hdl := ok.hdl
  have hwt : IntKind.i64.wrap (t.ty - 1) = t.ty - 1 := IntWalk.i64_in _ (by omega)
  obtain ⟨d, hd⟩ := someAt p.ds (t.ty - 1).toNat (by omega)
  have hxs : xtorsOf p.ds t.ty = d.xtors := by simp only [xtorsOf, hd, Option.map_some, Option.getD_some]
  have hnn : 0 ≤ t.n ∧ t.n < d.xtors.length := by
    simp only [hasN, hxs, Bool.and_eq_true, decide_eq_true_eq] at hh; exact ⟨hh.1.2, hh.2⟩
  obtain ⟨x, hx⟩ := someAt d.xtors t.n.toNat (by omega)
  have hx' : (xtorsOf p.ds t.ty)[t.n.toNat]? = some x := by rw [hxs]; exact hx
  have hxl := ok.hsm d (List.mem_of_getElem? hd) x (List.mem_of_getElem? hx)
  have hxa : xtorAt p.ds t.ty t.n = x := by rw [xtorAt, hx']; rfl
  have hco : d.codata = true := by
    simp only [dataB, codataB, hd, Option.map_some, Option.getD_some, Bool.and_eq_true, beq_iff_eq] at hd1; exact hd1.2
  have hne := ok.hend d (List.mem_of_getElem? hd) hco x (List.mem_of_getElem? hx)
  have hpn : prodN x ≤ 6 := Nat.le_trans (List.length_filter_le _ _) hxl
  obtain ⟨xl, xa, hxa2⟩ : ∃ xl xa, x.args = xl ++ [xa] := by
    rcases List.eq_nil_or_concat x.args with e | ⟨l, a, e⟩
    · exact absurd e hne
    · exact ⟨l, a, by rw [e, List.concat_eq_append]⟩
  have hlast : x.args[x.args.length - 1]? = some xa := by rw [hxa2]; simp
  have hres : resX x = xa.typ := by rw [resX, hxa2]; simp
  have hl1 : 1 ≤ x.args.length := by rw [hxa2]; simp
  have hw1 : IntKind.i64.wrap ((x.args.length : Int) - 1) = (x.args.length : Int) - 1 := IntWalk.i64_in _ (by omega)
  have htn : ((x.args.length : Int) - 1).toNat = x.args.length - 1 := by omega
  refine acalls_of Tryz.func78 rfl (by decide +kernel) (awp_sound (mu := []) _ _ _ ?_)
  simp only [go_sem, Nat.reduceEqDiff, Nat.reduceAdd, Nat.reduceSub, Nat.reduceLT, Nat.reduceMul, Nat.reduceBEq, Nat.reduceLeDiff, ↓reduceIte, Int.reduceToNat, Nat.reduceGT, Int.reduceLE, Int.reduceLT, Int.reduceGE, Int.reduceGT, Int.reduceEq, Int.reduceNe, reduceCtorEq, TermG.av, TermG.cs_eq, ProgG.av, ProgG.cs, declsAV, funsAV, ScG.av, ScG.cs, intsAV, paramsAV]
  intro q1 q2 q3
  simp only [go_sem, Nat.reduceEqDiff, Nat.reduceAdd, Nat.reduceSub, Nat.reduceLT, Nat.reduceMul, Nat.reduceBEq, Nat.reduceLeDiff, ↓reduceIte, Int.reduceToNat, Nat.reduceGT, Int.reduceLE, Int.reduceLT, Int.reduceGE, Int.reduceGT, Int.reduceEq, Int.reduceNe, reduceCtorEq, ho]
  refine draw_by (mu := []) (fun _ => True) (.take 0 (.take 1 (.take 2 (.take 3 (.take 4 (.take 5 (.take 6 (.take 7 (.take 8 (.take 9 (.take 10 (.take 11 (.br 12 (.br 13 (.done) (.stop)) (.stop)))))))))))))) (by decide +kernel) trivial (by decide +kernel) (by decide +kernel) ?_
  simp only [go_sem, Nat.reduceEqDiff, Nat.reduceAdd, Nat.reduceSub, Nat.reduceLT, Nat.reduceMul, Nat.reduceBEq, Nat.reduceLeDiff, ↓reduceIte, Int.reduceToNat, Nat.reduceGT, Int.reduceLE, Int.reduceLT, Int.reduceGE, Int.reduceGT, Int.reduceEq, Int.reduceNe, reduceCtorEq, hwt, mapAt DeclG.av _ _ _ hd, DeclG.av, DeclG.cs, mapAt XtorG.av _ _ _ hx, XtorG.av, XtorG.cs]
  refine ⟨by omega, fun _ _ => by omega, hnn.1, fun _ _ => hnn.1, ?_⟩
  intro v hv
  have hdv := fun T cs => Hp.del_set _ _ T cs hv.1
  simp only [hdv]
  refine draw_by (mu := []) (fun _ => True) (.take 0 (.take 1 (.take 2 (.take 3 (.take 4 (.take 5 (.take 6 (.take 7 (.take 8 (.take 9 (.take 10 (.take 12 (.take 13 (.br 11 (.br 14 (.br 15 (.br 16 (.take 17 (.take 18 (.done))) (.stop)) (.stop)) (.stop)) (.br 14 (.br 11 (.br 15 (.br 16 (.take 17 (.take 18 (.done))) (.stop)) (.stop)) (.stop)) (.stop)))))))))))))))) (by decide +kernel) trivial (by decide +kernel) (by decide +kernel) ?_
  simp only [go_sem, Nat.reduceEqDiff, Nat.reduceAdd, Nat.reduceSub, Nat.reduceLT, Nat.reduceMul, Nat.reduceBEq, Nat.reduceLeDiff, ↓reduceIte, Int.reduceToNat, Nat.reduceGT, Int.reduceLE, Int.reduceLT, Int.reduceGE, Int.reduceGT, Int.reduceEq, Int.reduceNe, reduceCtorEq, hw1, htn, mapAt ArgG.av _ _ _ hlast, ArgG.av, ArgG.cs]
  refine ⟨by omega, fun _ _ => by omega, ?_⟩
  have cp := fun hp => rproducers_calls x hxl hp
  simp only [XtorG.av, XtorG.cs] at cp
  repeat' first
    | with_reducible exact trivial
    | (refine callX_by (cp _) ?_; rintro r hp1 ⟨h31, rfl, rfl⟩; simp only [go_sem, Nat.reduceEqDiff, Nat.reduceAdd, Nat.reduceSub, Nat.reduceLT, Nat.reduceMul, Nat.reduceBEq, Nat.reduceLeDiff, ↓reduceIte, Int.reduceToNat, Nat.reduceGT, Int.reduceLE, Int.reduceLT, Int.reduceGE, Int.reduceGT, Int.reduceEq, Int.reduceNe, reduceCtorEq, intsAV])
    | (refine ⟨rfl, by simp, fun hd2 => ?_⟩; try simp only [go_sem, Nat.reduceEqDiff, Nat.reduceAdd, Nat.reduceSub, Nat.reduceLT, Nat.reduceMul, Nat.reduceBEq, Nat.reduceLeDiff, ↓reduceIte, Int.reduceToNat, Nat.reduceGT, Int.reduceLE, Int.reduceLT, Int.reduceGE, Int.reduceGT, Int.reduceEq, Int.reduceNe, reduceCtorEq, intsAV])
    | (refine append_at 0 Tryz.k30 Tryz.s3 Tryz.y3 Tryz.z3 rfl (by decide) rfl (Cast.refl _) rfl (Cast.refl _) rfl rfl (by rw [List.length_map, prods_len]; simp [maxLen]; omega) (by rw [List.length_map, prods_len]; simp; omega) (by simp [go_sem]) (fun h40 => ?_); try simp only [go_sem, Nat.reduceEqDiff, Nat.reduceAdd, Nat.reduceSub, Nat.reduceLT, Nat.reduceMul, Nat.reduceBEq, Nat.reduceLeDiff, ↓reduceIte, Int.reduceToNat, Nat.reduceGT, Int.reduceLE, Int.reduceLT, Int.reduceGE, Int.reduceGT, Int.reduceEq, Int.reduceNe, reduceCtorEq])
    | (refine append_at 1 Tryz.k30 Tryz.s3 Tryz.y3 Tryz.z3 rfl (by decide) rfl (Cast.refl _) rfl (Cast.refl _) rfl rfl (by rw [List.length_map, prods_len]; simp [maxLen]; omega) (by rw [List.length_map, prods_len]; simp; omega) (by simp [go_sem]) (fun h40 => ?_); try simp only [go_sem, Nat.reduceEqDiff, Nat.reduceAdd, Nat.reduceSub, Nat.reduceLT, Nat.reduceMul, Nat.reduceBEq, Nat.reduceLeDiff, ↓reduceIte, Int.reduceToNat, Nat.reduceGT, Int.reduceLE, Int.reduceLT, Int.reduceGE, Int.reduceGT, Int.reduceEq, Int.reduceNe, reduceCtorEq])
    | (with_reducible refine And.intro ?_ ?_)
  all_goals
    have c := fun hp => rall_calls hg h40 got (prodsX x ++ [t.ty]) hp
    simp only [intsAV, List.map_append, List.map_cons, List.map_nil, iv] at c
    refine callX_by (c _) ?_
    clear c
    rintro r hp1 ⟨rfl, rfl⟩
    simp only [go_sem, Nat.reduceEqDiff, Nat.reduceAdd, Nat.reduceSub, Nat.reduceLT, Nat.reduceMul, Nat.reduceBEq, Nat.reduceLeDiff, ↓reduceIte, Int.reduceToNat, Nat.reduceGT, Int.reduceLE, Int.reduceLT, Int.reduceGE, Int.reduceGT, Int.reduceEq, Int.reduceNe, reduceCtorEq]
    refine ret_le (hp' := hp) ⟨fun _ _ h => h, fun _ _ h => h, ?_, fun _ h => h⟩ (ruleR_of (by simp only [ruleT, ho, hxa, hres]; by_cases e : got = prodsX x ++ [t.ty] <;> simp [e]))
    simp only [go_sem, Nat.reduceEqDiff, Nat.reduceAdd, Nat.reduceSub, Nat.reduceLT, Nat.reduceMul, Nat.reduceBEq, Nat.reduceLeDiff, ↓reduceIte, Int.reduceToNat, Nat.reduceGT, Int.reduceLE, Int.reduceLT, Int.reduceGE, Int.reduceGT, Int.reduceEq, Int.reduceNe, reduceCtorEq]
    exact (List.sublist_cons_self _ _).trans (List.sublist_cons_self _ _)
theorem rule_let (pre : RuleH p s t got) (ho : t.op = 8) (hp : Hp) : ACalls Tryz.prog 78 [p.av, s.av, t.av, intsAV hg got] hp (RuleR (ruleT p.ds p.fs (envP s.V) (envP s.L) t got) hp) := by
  obtain ⟨ok, hn, hlen⟩ := pre
  rw [kids_len] at hlen
  have hc := node_nocls (by rw [ho]; decide) (by rw [ho]; decide) hn
  have hal : t.args.length = 2 := by
    rw [node_8 ho (by rw [hc]; rfl)] at hn
    rw [Bool.and_eq_true] at hn
    have := fields_len hn.1; omega
  obtain ⟨a, b, rfl⟩ := len2 (l := got) (by rw [hlen, hal, hc]; rfl)
  refine acalls_of Tryz.func78 rfl (by decide +kernel) (awp_sound (mu := []) _ _ _ ?_)
  simp only [go_sem, Nat.reduceEqDiff, Nat.reduceAdd, Nat.reduceSub, Nat.reduceLT, Nat.reduceMul, Nat.reduceBEq, Nat.reduceLeDiff, ↓reduceIte, Int.reduceToNat, Nat.reduceGT, Int.reduceLE, Int.reduceLT, Int.reduceGE, Int.reduceGT, Int.reduceEq, Int.reduceNe, reduceCtorEq, TermG.av, TermG.cs_eq, ProgG.av, ProgG.cs, declsAV, funsAV, ScG.av, ScG.cs, intsAV, paramsAV]
  intro q1 q2 q3
  simp only [go_sem, Nat.reduceEqDiff, Nat.reduceAdd, Nat.reduceSub, Nat.reduceLT, Nat.reduceMul, Nat.reduceBEq, Nat.reduceLeDiff, ↓reduceIte, Int.reduceToNat, Nat.reduceGT, Int.reduceLE, Int.reduceLT, Int.reduceGE, Int.reduceGT, Int.reduceEq, Int.reduceNe, reduceCtorEq, ho]
  refine draw_by (mu := []) (fun _ => True) (.take 0 (.take 1 (.take 2 (.take 3 (.take 4 (.take 5 (.take 6 (.take 7 (.take 8 (.take 9 (.take 10 (.done)))))))))))) (by decide +kernel) trivial (by decide +kernel) (by decide +kernel) ?_
  simp only [go_sem, Nat.reduceEqDiff, Nat.reduceAdd, Nat.reduceSub, Nat.reduceLT, Nat.reduceMul, Nat.reduceBEq, Nat.reduceLeDiff, ↓reduceIte, Int.reduceToNat, Nat.reduceGT, Int.reduceLE, Int.reduceLT, Int.reduceGE, Int.reduceGT, Int.reduceEq, Int.reduceNe, reduceCtorEq, List.map_cons, List.map_nil, iv]
  exact ret_same (ruleR_of (by simp only [ruleT, ho]; by_cases e : a = t.ty <;> simp [e]))
theorem rule_emit (pre : RuleH p s t got) (ho : t.op = 10) (hp : Hp) : ACalls Tryz.prog 78 [p.av, s.av, t.av, intsAV hg got] hp (RuleR (ruleT p.ds p.fs (envP s.V) (envP s.L) t got) hp) := by
  obtain ⟨ok, hn, hlen⟩ := pre
  rw [kids_len] at hlen
  have hc := node_nocls (by rw [ho]; decide) (by rw [ho]; decide) hn
  have hal : t.args.length = 2 := by
    rw [node_10 ho (by rw [hc]; rfl)] at hn
    skip
    have := fields_len hn; omega
  obtain ⟨a, b, rfl⟩ := len2 (l := got) (by rw [hlen, hal, hc]; rfl)
  refine acalls_of Tryz.func78 rfl (by decide +kernel) (awp_sound (mu := []) _ _ _ ?_)
  simp only [go_sem, Nat.reduceEqDiff, Nat.reduceAdd, Nat.reduceSub, Nat.reduceLT, Nat.reduceMul, Nat.reduceBEq, Nat.reduceLeDiff, ↓reduceIte, Int.reduceToNat, Nat.reduceGT, Int.reduceLE, Int.reduceLT, Int.reduceGE, Int.reduceGT, Int.reduceEq, Int.reduceNe, reduceCtorEq, TermG.av, TermG.cs_eq, ProgG.av, ProgG.cs, declsAV, funsAV, ScG.av, ScG.cs, intsAV, paramsAV]
  intro q1 q2 q3
  simp only [go_sem, Nat.reduceEqDiff, Nat.reduceAdd, Nat.reduceSub, Nat.reduceLT, Nat.reduceMul, Nat.reduceBEq, Nat.reduceLeDiff, ↓reduceIte, Int.reduceToNat, Nat.reduceGT, Int.reduceLE, Int.reduceLT, Int.reduceGE, Int.reduceGT, Int.reduceEq, Int.reduceNe, reduceCtorEq, ho]
  refine draw_by (mu := []) (fun _ => True) (.take 0 (.take 1 (.take 2 (.take 3 (.take 4 (.take 5 (.take 6 (.take 7 (.take 8 (.done)))))))))) (by decide +kernel) trivial (by decide +kernel) (by decide +kernel) ?_
  simp only [go_sem, Nat.reduceEqDiff, Nat.reduceAdd, Nat.reduceSub, Nat.reduceLT, Nat.reduceMul, Nat.reduceBEq, Nat.reduceLeDiff, ↓reduceIte, Int.reduceToNat, Nat.reduceGT, Int.reduceLE, Int.reduceLT, Int.reduceGE, Int.reduceGT, Int.reduceEq, Int.reduceNe, reduceCtorEq, List.map_cons, List.map_nil, iv]
  exact ret_same (ruleR_of (by simp only [ruleT, ho]; by_cases e : a = 0 <;> simp [e]))
theorem rule_label (pre : RuleH p s t got) (ho : t.op = 11) (hp : Hp) : ACalls Tryz.prog 78 [p.av, s.av, t.av, intsAV hg got] hp (RuleR (ruleT p.ds p.fs (envP s.V) (envP s.L) t got) hp) := by
  obtain ⟨ok, hn, hlen⟩ := pre
  rw [kids_len] at hlen
  have hc := node_nocls (by rw [ho]; decide) (by rw [ho]; decide) hn
  have hal : t.args.length = 1 := by
    rw [node_11 ho (by rw [hc]; rfl)] at hn
    rw [Bool.and_eq_true] at hn
    have := fields_len hn.1; omega
  obtain ⟨a, rfl⟩ := len1 (l := got) (by rw [hlen, hal, hc]; rfl)
  refine acalls_of Tryz.func78 rfl (by decide +kernel) (awp_sound (mu := []) _ _ _ ?_)
  simp only [go_sem, Nat.reduceEqDiff, Nat.reduceAdd, Nat.reduceSub, Nat.reduceLT, Nat.reduceMul, Nat.reduceBEq, Nat.reduceLeDiff, ↓reduceIte, Int.reduceToNat, Nat.reduceGT, Int.reduceLE, Int.reduceLT, Int.reduceGE, Int.reduceGT, Int.reduceEq, Int.reduceNe, reduceCtorEq, TermG.av, TermG.cs_eq, ProgG.av, ProgG.cs, declsAV, funsAV, ScG.av, ScG.cs, intsAV, paramsAV]
  intro q1 q2 q3
  simp only [go_sem, Nat.reduceEqDiff, Nat.reduceAdd, Nat.reduceSub, Nat.reduceLT, Nat.reduceMul, Nat.reduceBEq, Nat.reduceLeDiff, ↓reduceIte, Int.reduceToNat, Nat.reduceGT, Int.reduceLE, Int.reduceLT, Int.reduceGE, Int.reduceGT, Int.reduceEq, Int.reduceNe, reduceCtorEq, ho]
  refine draw_by (mu := []) (fun _ => True) (.take 0 (.take 1 (.take 2 (.take 3 (.take 4 (.take 5 (.take 6 (.take 7 (.take 8 (.take 9 (.done))))))))))) (by decide +kernel) trivial (by decide +kernel) (by decide +kernel) ?_
  simp only [go_sem, Nat.reduceEqDiff, Nat.reduceAdd, Nat.reduceSub, Nat.reduceLT, Nat.reduceMul, Nat.reduceBEq, Nat.reduceLeDiff, ↓reduceIte, Int.reduceToNat, Nat.reduceGT, Int.reduceLE, Int.reduceLT, Int.reduceGE, Int.reduceGT, Int.reduceEq, Int.reduceNe, reduceCtorEq, List.map_cons, List.map_nil, iv]
  exact ret_same (ruleR_of (by simp only [ruleT, ho]; by_cases e : a = t.ty <;> simp [e]))
theorem rule_goto (pre : RuleH p s t got) (ho : t.op = 12) (hp : Hp) : ACalls Tryz.prog 78 [p.av, s.av, t.av, intsAV hg got] hp (RuleR (ruleT p.ds p.fs (envP s.V) (envP s.L) t got) hp) := by
  obtain ⟨ok, hn, hlen⟩ := pre
  rw [kids_len] at hlen
  have hc := node_nocls (by rw [ho]; decide) (by rw [ho]; decide) hn
  rw [node_12 ho (by rw [hc]; rfl), Bool.and_eq_true, Bool.and_eq_true] at hn
  have hal : t.args.length = 1 := by have := fields_len hn.1; omega
  obtain ⟨a, rfl⟩ := len1 (l := got) (by rw [hlen, hal, hc]; rfl)
  obtain ⟨v, hv⟩ := domV hn.2.1
  refine acalls_of Tryz.func78 rfl (by decide +kernel) (awp_sound (mu := []) _ _ _ ?_)
  simp only [go_sem, Nat.reduceEqDiff, Nat.reduceAdd, Nat.reduceSub, Nat.reduceLT, Nat.reduceMul, Nat.reduceBEq, Nat.reduceLeDiff, ↓reduceIte, Int.reduceToNat, Nat.reduceGT, Int.reduceLE, Int.reduceLT, Int.reduceGE, Int.reduceGT, Int.reduceEq, Int.reduceNe, reduceCtorEq, TermG.av, TermG.cs_eq, ProgG.av, ProgG.cs, declsAV, funsAV, ScG.av, ScG.cs, intsAV, paramsAV]
  intro q1 q2 q3
  simp only [go_sem, Nat.reduceEqDiff, Nat.reduceAdd, Nat.reduceSub, Nat.reduceLT, Nat.reduceMul, Nat.reduceBEq, Nat.reduceLeDiff, ↓reduceIte, Int.reduceToNat, Nat.reduceGT, Int.reduceLE, Int.reduceLT, Int.reduceGE, Int.reduceGT, Int.reduceEq, Int.reduceNe, reduceCtorEq, ho]
  refine draw_by (mu := []) (fun _ => True) (.take 0 (.take 1 (.take 2 (.take 3 (.take 4 (.take 5 (.take 6 (.take 7 (.take 8 (.br 9 (.take 10 (.take 11 (.take 12 (.done)))) (.stop))))))))))) (by decide +kernel) trivial (by decide +kernel) (by decide +kernel) ?_
  simp only [go_sem, Nat.reduceEqDiff, Nat.reduceAdd, Nat.reduceSub, Nat.reduceLT, Nat.reduceMul, Nat.reduceBEq, Nat.reduceLeDiff, ↓reduceIte, Int.reduceToNat, Nat.reduceGT, Int.reduceLE, Int.reduceLT, Int.reduceGE, Int.reduceGT, Int.reduceEq, Int.reduceNe, reduceCtorEq, List.map_cons, List.map_nil, iv]
  have c := fun hp => rfind_P_calls s.hl s.L t.name hp
  simp only [paramsAV] at c
  refine callX_by (c _) ?_
  rintro r hp1 ⟨rfl, rfl⟩
  simp only [go_sem, Nat.reduceEqDiff, Nat.reduceAdd, Nat.reduceSub, Nat.reduceLT, Nat.reduceMul, Nat.reduceBEq, Nat.reduceLeDiff, ↓reduceIte, Int.reduceToNat, Nat.reduceGT, Int.reduceLE, Int.reduceLT, Int.reduceGE, Int.reduceGT, Int.reduceEq, Int.reduceNe, reduceCtorEq, hv, Option.getD_some]
  exact ret_same (ruleR_of (by simp only [ruleT, ho, hv]; by_cases e : v = a <;> simp [e, eq_comm]))
theorem rule_case (pre : RuleH p s t got) (ho : t.op = 5) (hp : Hp) : ACalls Tryz.prog 78 [p.av, s.av, t.av, intsAV hg got] hp (RuleR (ruleT p.ds p.fs (envP s.V) (envP s.L) t got) hp) := by
  obtain ⟨ok, hn, hlen⟩ := pre
  rw [kids_len] at hlen
  have hcl := (node_5 (ds := p.ds) (pf := p.pf) (V := domB (envP s.V)) (L := domB (envP s.L)) ho) ▸ hn
  rw [Bool.and_eq_true, Bool.and_eq_true] at hcl
  have hal := fields_len hcl.1
  obtain ⟨ht1, ht2⟩ := data_ty hcl.2.1
  have hxl := clsNames_len' hcl.2.2
  have hdl := ok.hdl
  obtain ⟨d, hd⟩ := someAt p.ds (t.ty - 1).toNat (by omega)
  have hxs : xtorsOf p.ds t.ty = d.xtors := by simp only [xtorsOf, hd, Option.map_some, Option.getD_some]
  have hx1 := ok.hx1 d (List.mem_of_getElem? hd)
  have hx1' : 1 ≤ d.xtors.length := by
    rcases e : d.xtors with _ | ⟨y, z⟩
    · exact absurd e hx1
    · simp
  rw [hxs] at hxl
  obtain ⟨a, b, r, rfl⟩ : ∃ a b r, got = a :: b :: r := by
    match got, hlen with
    | [], h => simp at h; omega
    | [a], h => simp at h; omega
    | a :: b :: r, _ => exact ⟨a, b, r, rfl⟩
  refine acalls_fit (callable_of Tryz.func78 (by decide +kernel)) fun hfit => ?_
  have hgl : (a :: b :: r).length ≤ maxLen := fit_lst hfit.2.2.2.1
  clear hfit
  refine acalls_of Tryz.func78 rfl (by decide +kernel) (awp_sound (mu := []) _ _ _ ?_)
  simp only [go_sem, Nat.reduceEqDiff, Nat.reduceAdd, Nat.reduceSub, Nat.reduceLT, Nat.reduceMul, Nat.reduceBEq, Nat.reduceLeDiff, ↓reduceIte, Int.reduceToNat, Nat.reduceGT, Int.reduceLE, Int.reduceLT, Int.reduceGE, Int.reduceGT, Int.reduceEq, Int.reduceNe, reduceCtorEq, TermG.av, TermG.cs_eq, ProgG.av, ProgG.cs, declsAV, funsAV, ScG.av, ScG.cs, intsAV, paramsAV]
  intro q1 q2 q3
  simp only [go_sem, Nat.reduceEqDiff, Nat.reduceAdd, Nat.reduceSub, Nat.reduceLT, Nat.reduceMul, Nat.reduceBEq, Nat.reduceLeDiff, ↓reduceIte, Int.reduceToNat, Nat.reduceGT, Int.reduceLE, Int.reduceLT, Int.reduceGE, Int.reduceGT, Int.reduceEq, Int.reduceNe, reduceCtorEq, ho]
  have hrl : (b :: r).length ≤ maxLen := by simp only [List.length_cons] at hgl ⊢; omega
  refine ⟨by omega, fun a' c' => ?_⟩
  refine aw_loopX 226 (fun k : Nat => [(3, .lst 1 hg ((a :: b :: r).map iv)), (6, .ref q3 [.v (.int .i64 5), .v (.int .i64 t.n), .v (.string (bs t.name)), .v (.int .i64 t.ty), .lst 6 t.ha (t.args.map TermG.av), .lst 7 t.hc (t.cls.map ClauseG.av)]), (74, .lst 1 (.slice a' (r.length + 1) c') ((b :: r).map iv)), (75, .v (.int .i64 (b :: r).length)), (76, .v (.int .i64 k))])
    (fun _ => hp) (fun k => k ≤ (b :: r).length ∧ ((b :: r).take k).all (fun u => decide (u = b)) = true) (fun k => (b :: r).length - k) 0 ⟨Nat.zero_le _, rfl⟩ (le_mkSl rfl (Hp.le_refl _) (by simp [go_sem, List.take_of_length_le])) ?_
  rintro k ⟨hk, hd⟩
  refine awp_sound (mu := []) _ _ _ ?_
  simp only [go_sem, Nat.reduceEqDiff, Nat.reduceAdd, Nat.reduceSub, Nat.reduceLT, Nat.reduceMul, Nat.reduceBEq, Nat.reduceLeDiff, ↓reduceIte, Int.reduceToNat, Nat.reduceGT, Int.reduceLE, Int.reduceLT, Int.reduceGE, Int.reduceGT, Int.reduceEq, Int.reduceNe, reduceCtorEq]
  refine brK_mk (fun b1 => ?_) (fun b1 => ?_) <;> simp only [go_sem, Nat.reduceEqDiff, Nat.reduceAdd, Nat.reduceSub, Nat.reduceLT, Nat.reduceMul, Nat.reduceBEq, Nat.reduceLeDiff, ↓reduceIte, Int.reduceToNat, Nat.reduceGT, Int.reduceLE, Int.reduceLT, Int.reduceGE, Int.reduceGT, Int.reduceEq, Int.reduceNe, reduceCtorEq, b1]
  · have hk' : k < (b :: r).length := by have := of_decide_eq_true b1; simp only [List.length_cons]; omega
    obtain ⟨u, hu⟩ := someAt (b :: r) k hk'
    have hwu : IntKind.i64.wrap ((k : Int) + 1) = ((k + 1 : Nat) : Int) := upK k _ hk' hrl
    have hu' : (iv b :: List.map iv r)[k]? = some (.v (.int .i64 u)) := intAt _ _ _ hu
    rw [hu']
    simp only [go_sem, Nat.reduceEqDiff, Nat.reduceAdd, Nat.reduceSub, Nat.reduceLT, Nat.reduceMul, Nat.reduceBEq, Nat.reduceLeDiff, ↓reduceIte, Int.reduceToNat, Nat.reduceGT, Int.reduceLE, Int.reduceLT, Int.reduceGE, Int.reduceGT, Int.reduceEq, Int.reduceNe, reduceCtorEq, iv, hwu]
    refine brK_mk (fun b2 => ?_) (fun b2 => ?_) <;> simp only [go_sem, Nat.reduceEqDiff, Nat.reduceAdd, Nat.reduceSub, Nat.reduceLT, Nat.reduceMul, Nat.reduceBEq, Nat.reduceLeDiff, ↓reduceIte, Int.reduceToNat, Nat.reduceGT, Int.reduceLE, Int.reduceLT, Int.reduceGE, Int.reduceGT, Int.reduceEq, Int.reduceNe, reduceCtorEq, b2, hwu]
    · have e := of_decide_eq_true b2
      exact ⟨k + 1, by simp only [List.length_cons] at hk' ⊢; omega, ⟨by simp only [List.length_cons] at hk' ⊢; omega, by rw [List.take_add_one, hu, List.all_append, hd]; simp [e]⟩, le_mkSl rfl (Hp.le_refl _) (by simp [go_sem, hwu, iv])⟩
    · have e := of_decide_eq_false b2
      exact ret_same (ruleR_no (by
        rw [ruleT_5 ho, if_neg]
        rintro ⟨_, h⟩
        apply e
        match k, hu with
        | 0, hu => exact (Option.some.inj hu).symm
        | k + 1, hu => exact of_decide_eq_true (List.all_eq_true.1 h u (List.mem_of_getElem? hu))))
  · have e0 : k = (b :: r).length := by have := of_decide_eq_false b1; simp only [List.length_cons] at hk ⊢; omega
    subst e0
    rw [List.take_length, List.all_cons, Bool.and_eq_true] at hd
    refine draw_by (mu := []) (fun _ => True) (.take 0 (.take 1 (.take 2 (.take 3 (.take 4 (.take 5 (.take 6 (.take 7 (.take 8 (.take 9 (.take 10 (.done)))))))))))) (by decide +kernel) trivial (by decide +kernel) (by decide +kernel) ?_
    simp only [go_sem, Nat.reduceEqDiff, Nat.reduceAdd, Nat.reduceSub, Nat.reduceLT, Nat.reduceMul, Nat.reduceBEq, Nat.reduceLeDiff, ↓reduceIte, Int.reduceToNat, Nat.reduceGT, Int.reduceLE, Int.reduceLT, Int.reduceGE, Int.reduceGT, Int.reduceEq, Int.reduceNe, reduceCtorEq, iv]
    exact ret_same (ruleR_of (o := ruleT p.ds p.fs (envP s.V) (envP s.L) t (a :: b :: r)) (by rw [ruleT_5 ho]; by_cases e : a = t.ty <;> simp [e, hd.2]))
theorem rule_cocase (pre : RuleH p s t got) (ho : t.op = 7) (hp : Hp) : ACalls Tryz.prog 78 [p.av, s.av, t.av, intsAV hg got] hp (RuleR (ruleT p.ds p.fs (envP s.V) (envP s.L) t got) hp) := by
  obtain ⟨ok, hn, hlen⟩ := pre
  rw [kids_len] at hlen
  have hcl := (node_7 (ds := p.ds) (pf := p.pf) (V := domB (envP s.V)) (L := domB (envP s.L)) ho) ▸ hn
  rw [Bool.and_eq_true, Bool.and_eq_true] at hcl
  have hal := fields_len hcl.1
  obtain ⟨ht1, ht2⟩ := data_ty hcl.2.1
  have hxl := clsNames_len' hcl.2.2
  have hdl := ok.hdl
  have hwt : IntKind.i64.wrap (t.ty - 1) = t.ty - 1 := IntWalk.i64_in _ (by omega)
  obtain ⟨d, hd⟩ := someAt p.ds (t.ty - 1).toNat (by omega)
  have hxs : xtorsOf p.ds t.ty = d.xtors := by simp only [xtorsOf, hd, Option.map_some, Option.getD_some]
  rw [hxs] at hxl
  have hco : d.codata = true := by
    have hd1 := hcl.2.1
    simp only [dataB, codataB, hd, Option.map_some, Option.getD_some, Bool.and_eq_true, beq_iff_eq] at hd1; exact hd1.2
  refine acalls_fit (callable_of Tryz.func78 (by decide +kernel)) fun hfit => ?_
  have hgl : got.length ≤ maxLen := fit_lst hfit.2.2.2.1
  clear hfit
  refine acalls_of Tryz.func78 rfl (by decide +kernel) (awp_sound (mu := []) _ _ _ ?_)
  simp only [go_sem, Nat.reduceEqDiff, Nat.reduceAdd, Nat.reduceSub, Nat.reduceLT, Nat.reduceMul, Nat.reduceBEq, Nat.reduceLeDiff, ↓reduceIte, Int.reduceToNat, Nat.reduceGT, Int.reduceLE, Int.reduceLT, Int.reduceGE, Int.reduceGT, Int.reduceEq, Int.reduceNe, reduceCtorEq, TermG.av, TermG.cs_eq, ProgG.av, ProgG.cs, declsAV, funsAV, ScG.av, ScG.cs, intsAV, paramsAV]
  intro q1 q2 q3
  simp only [go_sem, Nat.reduceEqDiff, Nat.reduceAdd, Nat.reduceSub, Nat.reduceLT, Nat.reduceMul, Nat.reduceBEq, Nat.reduceLeDiff, ↓reduceIte, Int.reduceToNat, Nat.reduceGT, Int.reduceLE, Int.reduceLT, Int.reduceGE, Int.reduceGT, Int.reduceEq, Int.reduceNe, reduceCtorEq, ho]
  simp only [go_sem, Nat.reduceEqDiff, Nat.reduceAdd, Nat.reduceSub, Nat.reduceLT, Nat.reduceMul, Nat.reduceBEq, Nat.reduceLeDiff, ↓reduceIte, Int.reduceToNat, Nat.reduceGT, Int.reduceLE, Int.reduceLT, Int.reduceGE, Int.reduceGT, Int.reduceEq, Int.reduceNe, reduceCtorEq, hwt, mapAt DeclG.av _ _ _ hd, DeclG.av, DeclG.cs]
  refine ⟨by omega, ?_⟩
  have hgx : got.length = d.xtors.length := by omega
  refine aw_loopX 226 (fun k : Nat => [(3, .lst 1 hg (got.map iv)), (6, .ref q3 [.v (.int .i64 7), .v (.int .i64 t.n), .v (.string (bs t.name)), .v (.int .i64 t.ty), .lst 6 t.ha (t.args.map TermG.av), .lst 7 t.hc (t.cls.map ClauseG.av)]), (135, .lst 2 d.h (d.xtors.map XtorG.av)), (136, .v (.int .i64 d.xtors.length)), (137, .v (.int .i64 k))])
    (fun _ => hp) (fun k => k ≤ d.xtors.length ∧ got.take k = (d.xtors.map resX).take k) (fun k => d.xtors.length - k) 0 ⟨Nat.zero_le _, rfl⟩ (le_mkSl rfl (Hp.le_refl _) (by simp [go_sem])) ?_
  rintro k ⟨hk, hdd⟩
  refine awp_sound (mu := []) _ _ _ ?_
  simp only [go_sem, Nat.reduceEqDiff, Nat.reduceAdd, Nat.reduceSub, Nat.reduceLT, Nat.reduceMul, Nat.reduceBEq, Nat.reduceLeDiff, ↓reduceIte, Int.reduceToNat, Nat.reduceGT, Int.reduceLE, Int.reduceLT, Int.reduceGE, Int.reduceGT, Int.reduceEq, Int.reduceNe, reduceCtorEq]
  refine brK_mk (fun b1 => ?_) (fun b1 => ?_) <;> simp only [go_sem, Nat.reduceEqDiff, Nat.reduceAdd, Nat.reduceSub, Nat.reduceLT, Nat.reduceMul, Nat.reduceBEq, Nat.reduceLeDiff, ↓reduceIte, Int.reduceToNat, Nat.reduceGT, Int.reduceLE, Int.reduceLT, Int.reduceGE, Int.reduceGT, Int.reduceEq, Int.reduceNe, reduceCtorEq, b1]
  · have hk' : k < d.xtors.length := by simpa using b1
    obtain ⟨x, hx⟩ := someAt d.xtors k hk'
    obtain ⟨u, hu⟩ := someAt got k (by omega)
    have hwu : IntKind.i64.wrap ((k : Int) + 1) = ((k + 1 : Nat) : Int) := upK k _ (by omega) hgl
    have hne := ok.hend d (List.mem_of_getElem? hd) hco x (List.mem_of_getElem? hx)
    have hxl6 := ok.hsm d (List.mem_of_getElem? hd) x (List.mem_of_getElem? hx)
    obtain ⟨xl, xa, hxa2⟩ : ∃ xl xa, x.args = xl ++ [xa] := by
      rcases List.eq_nil_or_concat x.args with e | ⟨l, a, e⟩
      · exact absurd e hne
      · exact ⟨l, a, by rw [e, List.concat_eq_append]⟩
    have hlast : x.args[x.args.length - 1]? = some xa := by rw [hxa2]; simp
    have hres : resX x = xa.typ := by rw [resX, hxa2]; simp
    have hl1 : 1 ≤ x.args.length := by rw [hxa2]; simp
    have hw1 : IntKind.i64.wrap ((x.args.length : Int) - 1) = (x.args.length : Int) - 1 := IntWalk.i64_in _ (by omega)
    have htn : ((x.args.length : Int) - 1).toNat = x.args.length - 1 := by omega
    simp only [go_sem, Nat.reduceEqDiff, Nat.reduceAdd, Nat.reduceSub, Nat.reduceLT, Nat.reduceMul, Nat.reduceBEq, Nat.reduceLeDiff, ↓reduceIte, Int.reduceToNat, Nat.reduceGT, Int.reduceLE, Int.reduceLT, Int.reduceGE, Int.reduceGT, Int.reduceEq, Int.reduceNe, reduceCtorEq, mapAt XtorG.av _ _ _ hx, XtorG.av, XtorG.cs]
    intro v hv
    have hdv := fun T cs => Hp.del_set _ _ T cs hv.1
    simp only [hdv]
    refine draw_by (mu := []) (fun _ => True) (.take 0 (.take 1 (.take 2 (.take 3 (.take 4 (.take 5 (.take 6 (.take 7 (.take 8 (.take 9 (.take 10 (.take 11 (.take 12 (.take 13 (.done))))))))))))))) (by decide +kernel) trivial (by decide +kernel) (by decide +kernel) ?_
    simp only [go_sem, Nat.reduceEqDiff, Nat.reduceAdd, Nat.reduceSub, Nat.reduceLT, Nat.reduceMul, Nat.reduceBEq, Nat.reduceLeDiff, ↓reduceIte, Int.reduceToNat, Nat.reduceGT, Int.reduceLE, Int.reduceLT, Int.reduceGE, Int.reduceGT, Int.reduceEq, Int.reduceNe, reduceCtorEq, intAt _ _ _ hu, hw1, htn, mapAt ArgG.av _ _ _ hlast, ArgG.av, ArgG.cs, hwu]
    refine ⟨by omega, fun _ _ => by omega, ?_⟩
    refine brK_mk (fun b2 => ?_) (fun b2 => ?_) <;> simp only [go_sem, Nat.reduceEqDiff, Nat.reduceAdd, Nat.reduceSub, Nat.reduceLT, Nat.reduceMul, Nat.reduceBEq, Nat.reduceLeDiff, ↓reduceIte, Int.reduceToNat, Nat.reduceGT, Int.reduceLE, Int.reduceLT, Int.reduceGE, Int.reduceGT, Int.reduceEq, Int.reduceNe, reduceCtorEq, b2, hwu]
    · have e := of_decide_eq_true b2
      exact ⟨k + 1, by omega, ⟨by omega, by rw [List.take_add_one, List.take_add_one, hdd, hu, List.getElem?_map, hx, Option.map_some, e, hres]⟩, le_mkSl rfl (Hp.le_refl _) (by simp [go_sem, hwu])⟩
    · have e := of_decide_eq_false b2
      exact ret_same (ruleR_no (by
        rw [ruleT_7 ho, if_neg (ne_at hu (b := xa.typ) (by rw [hxs, List.getElem?_map, hx, Option.map_some, hres]) e)]))
  · have e0 : k = d.xtors.length := by have := of_decide_eq_false b1; omega
    subst e0
    rw [List.take_of_length_le (by omega), List.take_of_length_le (by simp)] at hdd
    exact ret_same (ruleR_yes (by rw [ruleT_7 ho, hxs, if_pos hdd]))
theorem rule_call (pre : RuleH p s t got) (ho : t.op = 9) (hp : Hp) : ACalls Tryz.prog 78 [p.av, s.av, t.av, intsAV hg got] hp (RuleR (ruleT p.ds p.fs (envP s.V) (envP s.L) t got) hp) := by
  obtain ⟨ok, hn, hlen⟩ := pre
  rw [kids_len] at hlen
  have hc := node_nocls (by rw [ho]; decide) (by rw [ho]; decide) hn
  have hn0 : 0 ≤ t.n := by
    rcases Int.lt_or_le t.n 0 with h | h
    · rw [node_9n ho h] at hn; cases hn
    · exact h
  obtain ⟨f, hf⟩ : ∃ f, p.fs[t.n.toNat]? = some f := by
    cases e : p.fs[t.n.toNat]? with
    | some f => exact ⟨f, rfl⟩
    | none => rw [node_9k ho (by rw [ProgG.pf, List.getElem?_map, e]; rfl)] at hn; cases hn
  rw [node_9 ho (by rw [hc]; rfl) (k := f.params.length) (by rw [ProgG.pf, List.getElem?_map, hf]; rfl) hn0] at hn
  have hal := fields_len hn
  have hfp := ok.hfp f (List.mem_of_getElem? hf)
  have hgx : got.length = f.params.length := by rw [hlen, hc]; simp; omega
  refine acalls_of Tryz.func78 rfl (by decide +kernel) (awp_sound (mu := []) _ _ _ ?_)
  simp only [go_sem, Nat.reduceEqDiff, Nat.reduceAdd, Nat.reduceSub, Nat.reduceLT, Nat.reduceMul, Nat.reduceBEq, Nat.reduceLeDiff, ↓reduceIte, Int.reduceToNat, Nat.reduceGT, Int.reduceLE, Int.reduceLT, Int.reduceGE, Int.reduceGT, Int.reduceEq, Int.reduceNe, reduceCtorEq, TermG.av, TermG.cs_eq, ProgG.av, ProgG.cs, declsAV, funsAV, ScG.av, ScG.cs, intsAV, paramsAV]
  intro q1 q2 q3
  simp only [go_sem, Nat.reduceEqDiff, Nat.reduceAdd, Nat.reduceSub, Nat.reduceLT, Nat.reduceMul, Nat.reduceBEq, Nat.reduceLeDiff, ↓reduceIte, Int.reduceToNat, Nat.reduceGT, Int.reduceLE, Int.reduceLT, Int.reduceGE, Int.reduceGT, Int.reduceEq, Int.reduceNe, reduceCtorEq, ho]
  simp only [go_sem, Nat.reduceEqDiff, Nat.reduceAdd, Nat.reduceSub, Nat.reduceLT, Nat.reduceMul, Nat.reduceBEq, Nat.reduceLeDiff, ↓reduceIte, Int.reduceToNat, Nat.reduceGT, Int.reduceLE, Int.reduceLT, Int.reduceGE, Int.reduceGT, Int.reduceEq, Int.reduceNe, reduceCtorEq, mapAt FunG.av _ _ _ hf, FunG.av, FunG.cs, paramsAV]
  refine ⟨hn0, ?_⟩
  intro v hv
  have hdv := fun T cs => Hp.del_set _ _ T cs hv.1
  simp only [hdv]
  refine aw_loopX 226 (fun k : Nat => [(3, .lst 1 hg (got.map iv)), (15, .ref (.pointer (some ⟨v, 0, none⟩)) [.v (.string (bs f.name)), .lst 2 f.hp (f.params.map ParamG.av), .v (.int .i64 f.res), .v (.int .i64 f.body.op), .v (.int .i64 f.body.n), .v (.string (bs f.body.name)), .v (.int .i64 f.body.ty), .lst 6 f.body.ha (f.body.args.map TermG.av), .lst 7 f.body.hc (f.body.cls.map ClauseG.av)]), (179, .lst 2 f.hp (f.params.map ParamG.av)), (180, .v (.int .i64 f.params.length)), (181, .v (.int .i64 k))])
    (fun _ => hp) (fun k => k ≤ f.params.length ∧ got.take k = (f.params.map ParamG.ty).take k) (fun k => f.params.length - k) 0 ⟨Nat.zero_le _, rfl⟩ (le_mkSl rfl (Hp.le_refl _) (by simp [go_sem])) ?_
  rintro k ⟨hk, hdd⟩
  refine awp_sound (mu := []) _ _ _ ?_
  simp only [go_sem, Nat.reduceEqDiff, Nat.reduceAdd, Nat.reduceSub, Nat.reduceLT, Nat.reduceMul, Nat.reduceBEq, Nat.reduceLeDiff, ↓reduceIte, Int.reduceToNat, Nat.reduceGT, Int.reduceLE, Int.reduceLT, Int.reduceGE, Int.reduceGT, Int.reduceEq, Int.reduceNe, reduceCtorEq]
  refine brK_mk (fun b1 => ?_) (fun b1 => ?_) <;> simp only [go_sem, Nat.reduceEqDiff, Nat.reduceAdd, Nat.reduceSub, Nat.reduceLT, Nat.reduceMul, Nat.reduceBEq, Nat.reduceLeDiff, ↓reduceIte, Int.reduceToNat, Nat.reduceGT, Int.reduceLE, Int.reduceLT, Int.reduceGE, Int.reduceGT, Int.reduceEq, Int.reduceNe, reduceCtorEq, b1]
  · have hk' : k < f.params.length := by simpa using b1
    obtain ⟨x, hx⟩ := someAt f.params k hk'
    obtain ⟨u, hu⟩ := someAt got k (by omega)
    have hwu : IntKind.i64.wrap ((k : Int) + 1) = ((k + 1 : Nat) : Int) := IntWalk.i64_in _ (by omega)
    simp only [go_sem, Nat.reduceEqDiff, Nat.reduceAdd, Nat.reduceSub, Nat.reduceLT, Nat.reduceMul, Nat.reduceBEq, Nat.reduceLeDiff, ↓reduceIte, Int.reduceToNat, Nat.reduceGT, Int.reduceLE, Int.reduceLT, Int.reduceGE, Int.reduceGT, Int.reduceEq, Int.reduceNe, reduceCtorEq, mapAt ParamG.av _ _ _ hx, ParamG.av, ParamG.cs]
    intro v2 hv2
    have hdv2 := fun T cs => Hp.del_set _ _ T cs hv2.1
    simp only [hdv2]
    refine draw_by (mu := []) (fun _ => True) (.take 0 (.take 1 (.take 2 (.take 3 (.take 4 (.take 5 (.take 6 (.done)))))))) (by decide +kernel) trivial (by decide +kernel) (by decide +kernel) ?_
    simp only [go_sem, Nat.reduceEqDiff, Nat.reduceAdd, Nat.reduceSub, Nat.reduceLT, Nat.reduceMul, Nat.reduceBEq, Nat.reduceLeDiff, ↓reduceIte, Int.reduceToNat, Nat.reduceGT, Int.reduceLE, Int.reduceLT, Int.reduceGE, Int.reduceGT, Int.reduceEq, Int.reduceNe, reduceCtorEq, intAt _ _ _ hu, hwu]
    refine brK_mk (fun b2 => ?_) (fun b2 => ?_) <;> simp only [go_sem, Nat.reduceEqDiff, Nat.reduceAdd, Nat.reduceSub, Nat.reduceLT, Nat.reduceMul, Nat.reduceBEq, Nat.reduceLeDiff, ↓reduceIte, Int.reduceToNat, Nat.reduceGT, Int.reduceLE, Int.reduceLT, Int.reduceGE, Int.reduceGT, Int.reduceEq, Int.reduceNe, reduceCtorEq, b2, hwu]
    · have e := of_decide_eq_true b2
      exact ⟨k + 1, by omega, ⟨by omega, by rw [List.take_add_one, List.take_add_one, hdd, hu, List.getElem?_map, hx, Option.map_some, e]⟩, le_mkSl rfl (Hp.le_refl _) (by simp [go_sem, hwu])⟩
    · have e := of_decide_eq_false b2
      exact ret_same (ruleR_no (by
        rw [ruleT_9 ho hf, if_neg (ne_at hu (b := x.ty) (by rw [List.getElem?_map, hx, Option.map_some]) e)]))
  · have e0 : k = f.params.length := by have := of_decide_eq_false b1; omega
    subst e0
    rw [List.take_of_length_le (by omega), List.take_of_length_le (by simp)] at hdd
    exact ret_same (ruleR_yes (by rw [ruleT_9 ho hf, if_pos hdd]))
end
end Go.Proofs.YtppoacgeiooppaaGreat
