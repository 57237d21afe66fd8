/- The reference of the layer 'check': typeOf, Type, Fault. -/
import Derived.Test.YtppoacgeiooppaaGreatCT33
set_option linter.unusedSimpArgs false
set_option linter.unusedVariables false
set_option maxRecDepth 20000
set_option maxHeartbeats 4000000
namespace Go.Proofs.YtppoacgeiooppaaGreat
open Go.AL

theorem rule_calls {p : ProgG} {s : ScG} {t : TermG} {got : List Int} {hg : Value} (pre : RuleH p s t got) (hp : Hp) : ACalls Tryz.prog 78 [p.av, s.av, t.av, intsAV hg got] hp (RuleR (ruleT p.ds p.fs (envP s.V) (envP s.L) t got) hp) := by
  have hops : t.op = 0 ∨ t.op = 1 ∨ t.op = 2 ∨ t.op = 3 ∨ t.op = 4 ∨ t.op = 5 ∨ t.op = 6 ∨ t.op = 7 ∨ t.op = 8 ∨ t.op = 9 ∨ t.op = 10 ∨ t.op = 11 ∨ t.op = 12 := by
    refine Classical.byContradiction fun hno => ?_
    have hn := pre.hn
    rw [node_no (by omega) (by omega) (by omega) (by omega) (by omega) (by omega) (by omega) (by omega) (by omega) (by omega) (by omega) (by omega) (by omega)] at hn
    cases hn
  rcases hops with ho | ho | ho | ho | ho | ho | ho | ho | ho | ho | ho | ho | ho
  · exact rule_var pre ho hp
  · exact rule_int pre ho hp
  · exact rule_prim pre ho hp
  · exact rule_ifz pre ho hp
  · exact rule_con pre ho hp
  · exact rule_case pre ho hp
  · exact rule_dtor pre ho hp
  · exact rule_cocase pre ho hp
  · exact rule_let pre ho hp
  · exact rule_call pre ho hp
  · exact rule_emit pre ho hp
  · exact rule_label pre ho hp
  · exact rule_goto pre ho hp
def TofR (res : Except (List Int) Int) (hp : Hp) (r : AV) (hp' : Hp) : Prop :=
  hp' = hp ∧ match res with
  | .ok n => r = .tup [.v (.int .i64 n), .v (.slice none 0 0), .v (.bool true)]
  | .error q => ∃ h, r = .tup [.v (.int .i64 0), intsAV h q, .v (.bool false)]
theorem argS_len (s : ScP) (t : TermG) (k : Nat) : (argS s t k).1.length ≤ s.1.length + 1 ∧ (argS s t k).2.length ≤ s.2.length + 1 := by
  simp only [argS]
  constructor <;> split <;> simp
theorem kidsS_grow {ds : List DeclG} {pf : List Nat} {V L : Bytes → Bool} {s s' : ScP} {t x : TermG} {k : Nat} (hsm : SmallX ds) (hn : nodeB ds pf V L t = true) (h : (kids t)[k]? = some x) (hs : (kidsS ds s t)[k]? = some s') :
    s'.1.length ≤ s.1.length + 6 ∧ s'.2.length ≤ s.2.length + 6 := by
  rcases kidsS_at (ds := ds) (s := s) h with ⟨h1, h2, h3⟩ | ⟨h1, c, h2, h3, h4⟩
  · rw [h3] at hs
    obtain rfl := Option.some.inj hs
    have := argS_len s t k
    omega
  · rw [h4] at hs
    obtain rfl := Option.some.inj hs
    obtain ⟨hc, _, _, ht1, ht2⟩ := valid_cls hn (by intro e; rw [e] at h2; simp at h2)
    have hlen := clsNames_len' hc
    have hlt : k - t.args.length < t.cls.length := by
      rcases Nat.lt_or_ge (k - t.args.length) t.cls.length with h | h
      · exact h
      · rw [List.getElem?_eq_none h] at h2; cases h2
    obtain ⟨xx, hx⟩ := someAt (xtorsOf ds t.ty) (k - t.args.length) (by omega)
    have hnl := clsNames_at hc hx h2
    obtain ⟨d, hd⟩ := someAt ds (t.ty - 1).toNat (by omega)
    have hxs : xtorsOf ds t.ty = d.xtors := by simp only [xtorsOf, hd, Option.map_some, Option.getD_some]
    have hx6 := hsm d (List.mem_of_getElem? hd) xx (by rw [hxs] at hx; exact List.mem_of_getElem? hx)
    have hp6 : prodN xx ≤ 6 := Nat.le_trans (List.length_filter_le _ _) hx6
    simp only [clsS, h2, hx, Option.map_some, Option.getD_some, List.length_append]
    rw [zipP_len _ _ (by rw [prods_len]; exact hnl), prods_len]
    omega
theorem depth_kid {t x : TermG} (h : x ∈ kids t) : depthT x + 1 ≤ depthT t := by
  rw [kids, List.mem_append] at h
  rcases h with h | h
  · exact depth_arg h
  · obtain ⟨c, hc, rfl⟩ := List.mem_map.1 h
    exact depth_cls hc
section
variable {ds : List DeclG} {fs : List FunG}
mutual
theorem path_len : ∀ (t : TermG) {E K : Bytes → Option Int} {q : List Int}, typeT ds fs E K t = .error q → q.length < depthT t
  | .mk op n name ty ha args hc cls, E, K, q, h => by
    rw [typeT] at h
    rw [depthT]
    cases e1 : typeA ds fs E K op name ty 0 args with
    | error p =>
      rw [e1] at h
      injection h with h; subst h
      have := path_lenA args 0 e1; omega
    | ok l =>
      rw [e1] at h
      simp only at h
      cases e2 : typeC ds fs E K (xtorsOf ds ty) args.length cls with
      | error p =>
        rw [e2] at h
        injection h with h; subst h
        have := path_lenC cls _ _ e2; omega
      | ok l' =>
        rw [e2] at h
        simp only at h
        cases e3 : ruleT ds fs E K (TermG.mk op n name ty ha args hc cls) (l ++ l') with
        | some r => rw [e3] at h; cases h
        | none =>
          rw [e3] at h
          injection h with h; subst h
          simp only [List.length_nil]; omega
theorem path_lenA : ∀ (l : List TermG) (k : Nat) {op ty : Int} {name : Bytes} {E K : Bytes → Option Int} {q : List Int}, typeA ds fs E K op name ty k l = .error q → q.length ≤ depthA l
  | [], k, op, ty, name, E, K, q, h => by rw [typeA] at h; cases h
  | a :: r, k, op, ty, name, E, K, q, h => by
    rw [typeA] at h
    rw [depthA]
    cases e1 : typeT ds fs (argE E op name ty k) (argK K op name ty) a with
    | error p =>
      rw [e1] at h
      injection h with h; subst h
      have := path_len a e1
      simp only [List.length_cons]; omega
    | ok n =>
      rw [e1] at h
      simp only at h
      cases e2 : typeA ds fs E K op name ty (k + 1) r with
      | error p =>
        rw [e2] at h
        injection h with h; subst h
        have := path_lenA r (k + 1) e2; omega
      | ok l => rw [e2] at h; cases h
theorem path_lenC : ∀ (l : List ClauseG) (xs : List XtorG) (k : Nat) {E K : Bytes → Option Int} {q : List Int}, typeC ds fs E K xs k l = .error q → q.length ≤ depthC l
  | [], xs, k, E, K, q, h => by rw [typeC] at h; cases h
  | c :: r, xs, k, E, K, q, h => by
    rw [typeC] at h
    rw [depthC]
    cases e1 : typeB ds fs E K xs c with
    | error p =>
      rw [e1] at h
      injection h with h; subst h
      have := path_lenB c xs e1
      simp only [List.length_cons]; omega
    | ok n =>
      rw [e1] at h
      simp only at h
      cases e2 : typeC ds fs E K (xs.drop 1) (k + 1) r with
      | error p =>
        rw [e2] at h
        injection h with h; subst h
        have := path_lenC r (xs.drop 1) (k + 1) e2; omega
      | ok l => rw [e2] at h; cases h
theorem path_lenB : ∀ (c : ClauseG) (xs : List XtorG) {E K : Bytes → Option Int} {q : List Int}, typeB ds fs E K xs c = .error q → q.length < depthB c
  | .mk hn names b, xs, E, K, q, h => by
    rw [typeB] at h
    rw [depthB]
    exact path_len b h
end
end
theorem typeOf_calls {p : ProgG} (ok : ProgOk p) : ∀ (N : Nat) (t : TermG), nodesT t ≤ N → N ≤ 5000 → ∀ (s : ScG), validT p.ds p.pf (domB (envP s.V)) (domB (envP s.L)) t = true → s.V.length + 6 * depthT t ≤ 5864062014790 → s.L.length + 6 * depthT t ≤ 5864062014790 → ∀ (hp : Hp),
    ACalls Tryz.prog 45 [p.av, s.av, t.av] hp (TofR (typeT p.ds p.fs (envP s.V) (envP s.L) t) hp)
  | 0, t, hN, _, _, _, _, _, _ => by have := nodesT_pos t; omega
  | N + 1, t, hN, hN2, s, hva, hV, hL, hp => by
    have hrec := typeOf_calls ok N
    have hn := valid_node hva
    have hn' : nodeB p.ds p.pf (hasB (s.V.map ParamG.name)) (hasB (s.L.map ParamG.name)) t = true := by rw [← dom_params, ← dom_params]; exact hn
    have hva' : validT p.ds p.pf (hasB (s.V.map ParamG.name)) (hasB (s.L.map ParamG.name)) t = true := by rw [← dom_params, ← dom_params]; exact hva
    have hnk := nodes_kids t
    have hkl := argsN_len (kids t)
    have hdp : 1 ≤ depthT t := by rw [depthT_eq]; omega
    have hall := typeT_all (ds := p.ds) (fs := p.fs) s.pair t
    refine acalls_addNil 3 1 ?_
    refine acalls_of Tryz.func45 rfl (by decide +kernel) (awp_sound (mu := []) _ _ _ ?_)
    simp only [go_sem, Nat.reduceEqDiff, Nat.reduceAdd, Nat.reduceSub, Nat.reduceLT, Nat.reduceMul, Nat.reduceBEq, Nat.reduceLeDiff, ↓reduceIte, Int.reduceToNat, Nat.reduceGT, Int.reduceLE, Int.reduceLT, Int.reduceGE, Int.reduceGT, Int.reduceEq, Int.reduceNe, reduceCtorEq, TermG.av, TermG.cs_eq, ProgG.av, ProgG.cs, declsAV, funsAV, ScG.av, ScG.cs]
    intro q1 q2 q3
    have c := fun hp => kids_P_calls ok.hsm ok.hdl s t hn' (by omega) (by omega) (by omega) hp
    simp only [TermG.av, TermG.cs_eq, ProgG.av, ProgG.cs, declsAV, funsAV, ScG.av, ScG.cs] at c
    refine callX_by (c _) ?_
    clear c
    rintro r hp1 ⟨⟨h9, h10, ss, rfl, hss⟩, rfl⟩
    simp only [go_sem, Nat.reduceEqDiff, Nat.reduceAdd, Nat.reduceSub, Nat.reduceLT, Nat.reduceMul, Nat.reduceBEq, Nat.reduceLeDiff, ↓reduceIte, Int.reduceToNat, Nat.reduceGT, Int.reduceLE, Int.reduceLT, Int.reduceGE, Int.reduceGT, Int.reduceEq, Int.reduceNe, reduceCtorEq, termsAV, scsAV]
    have hR := fun (k : Nat) (x : TermG) (s' : ScP) (h1 : (kids t)[k]? = some x) (h2 : (kidsS p.ds s.pair t)[k]? = some s') => resAll_at (ds := p.ds) (fs := p.fs) h1 h2
    have hRl := resAll_len (ds := p.ds) (fs := p.fs) s.pair t
    have hsl : ss.length = (kids t).length := by have := congrArg List.length hss; rwa [List.length_map, kidsS_len] at this
    generalize resAll p.ds p.fs s.pair t = R at hall hR hRl
    refine aw_loopX 64 (fun x : Nat × Value × List Int => [(3, .ref q1 [.lst 3 p.hd (p.ds.map DeclG.av), .lst 9 p.hf (p.fs.map FunG.av)]), (4, .ref q2 [paramsAV s.hv s.V, paramsAV s.hl s.L]), (5, .ref q3 [.v (.int .i64 t.op), .v (.int .i64 t.n), .v (.string (bs t.name)), .v (.int .i64 t.ty), .lst 6 t.ha (t.args.map TermG.av), .lst 7 t.hc (t.cls.map ClauseG.av)]), (10, .lst 2 h10 (ss.map ScG.av)), (11, intsAV x.2.1 x.2.2), (24, .lst 6 h9 ((kids t).map TermG.av)), (25, .v (.int .i64 (kids t).length)), (26, .v (.int .i64 x.1))])
      (fun x => hp.setSp ((3, 1, x.2.1) :: hp.sp)) (fun x => x.1 ≤ (kids t).length ∧ R.take x.1 = x.2.2.map .ok ∧ x.2.2.length = x.1) (fun x => (kids t).length - x.1) (0, .slice none 0 0, []) ⟨Nat.zero_le _, rfl, rfl⟩
      (le_of_cast rfl (Hp.le_refl _) (by simp [go_sem, Cast.refl, intsAV]; exact Cast.nil 1)) ?_
    rintro ⟨k, h11, got⟩ ⟨hk, hg1, hg2⟩
    simp only at hk hg1 hg2
    refine awp_sound (mu := []) _ _ _ ?_
    simp only [go_sem, Nat.reduceEqDiff, Nat.reduceAdd, Nat.reduceSub, Nat.reduceLT, Nat.reduceMul, Nat.reduceBEq, Nat.reduceLeDiff, ↓reduceIte, Int.reduceToNat, Nat.reduceGT, Int.reduceLE, Int.reduceLT, Int.reduceGE, Int.reduceGT, Int.reduceEq, Int.reduceNe, reduceCtorEq, intsAV]
    refine brK_mk (fun b1 => ?_) (fun b1 => ?_) <;> simp only [go_sem, Nat.reduceEqDiff, Nat.reduceAdd, Nat.reduceSub, Nat.reduceLT, Nat.reduceMul, Nat.reduceBEq, Nat.reduceLeDiff, ↓reduceIte, Int.reduceToNat, Nat.reduceGT, Int.reduceLE, Int.reduceLT, Int.reduceGE, Int.reduceGT, Int.reduceEq, Int.reduceNe, reduceCtorEq, b1]
    · have hk' : k < (kids t).length := by simpa using b1
      obtain ⟨x, hx⟩ := someAt (kids t) k hk'
      obtain ⟨s', hs'⟩ := someAt ss k (by omega)
      have hs2 : (kidsS p.ds s.pair t)[k]? = some s'.pair := by rw [← hss, List.getElem?_map, hs']; rfl
      have hwk : IntKind.i64.wrap ((k : Int) + 1) = ((k + 1 : Nat) : Int) := IntWalk.i64_in _ (by omega)
      have hmem := List.mem_of_getElem? hx
      have hlt := kids_lt hmem
      have hdk := depth_kid hmem
      have hgr := kidsS_grow ok.hsm hn' hx hs2
      have hgr1 : s'.V.length ≤ s.V.length + 6 := hgr.1
      have hgr2 : s'.L.length ≤ s.L.length + 6 := hgr.2
      have hvk : validT p.ds p.pf (domB (envP s'.V)) (domB (envP s'.L)) x = true := by rw [dom_params, dom_params]; exact valid_kid (s := s.pair) (s' := s'.pair) hva' hx hs2
      have hRk := hR k x s'.pair hx hs2
      have hdr : R.drop k = typeT p.ds p.fs (envP s'.V) (envP s'.L) x :: R.drop (k + 1) := dropK hRk
      simp only [go_sem, Nat.reduceEqDiff, Nat.reduceAdd, Nat.reduceSub, Nat.reduceLT, Nat.reduceMul, Nat.reduceBEq, Nat.reduceLeDiff, ↓reduceIte, Int.reduceToNat, Nat.reduceGT, Int.reduceLE, Int.reduceLT, Int.reduceGE, Int.reduceGT, Int.reduceEq, Int.reduceNe, reduceCtorEq, mapAt TermG.av _ _ _ hx, TermG.av, TermG.cs_eq]
      intro v hv
      have hdv := fun T cs => Hp.del_set _ _ T cs hv.1
      simp only [hdv]
      refine draw_by (mu := []) (fun _ => True) (.take 0 (.take 1 (.take 2 (.take 3 (.take 4 (.take 5 (.br 6 (.take 7 (.take 8 (.take 9 (.take 10 (.take 11 (.take 12 (.take 13 (.done)))))))) (.stop)))))))) (by decide +kernel) trivial (by decide +kernel) (by decide +kernel) ?_
      simp only [go_sem, Nat.reduceEqDiff, Nat.reduceAdd, Nat.reduceSub, Nat.reduceLT, Nat.reduceMul, Nat.reduceBEq, Nat.reduceLeDiff, ↓reduceIte, Int.reduceToNat, Nat.reduceGT, Int.reduceLE, Int.reduceLT, Int.reduceGE, Int.reduceGT, Int.reduceEq, Int.reduceNe, reduceCtorEq, mapAt ScG.av _ _ _ hs', ScG.av, ScG.cs]
      have c := fun hp => hrec x (by omega) (by omega) s' hvk (by omega) (by omega) hp
      simp only [TermG.av, TermG.cs_eq, ProgG.av, ProgG.cs, declsAV, funsAV, ScG.av, ScG.cs] at c
      refine callX_by (c _) ?_
      clear c
      rintro r hp1 ⟨rfl, hr⟩
      cases e : typeT p.ds p.fs (envP s'.V) (envP s'.L) x with
      | ok n =>
        rw [e] at hr
        simp only at hr
        subst hr
        simp only [go_sem, Nat.reduceEqDiff, Nat.reduceAdd, Nat.reduceSub, Nat.reduceLT, Nat.reduceMul, Nat.reduceBEq, Nat.reduceLeDiff, ↓reduceIte, Int.reduceToNat, Nat.reduceGT, Int.reduceLE, Int.reduceLT, Int.reduceGE, Int.reduceGT, Int.reduceEq, Int.reduceNe, reduceCtorEq]
        refine ⟨rfl, by simp, fun hd => ?_⟩
        refine append_at 1 Tryz.k30 Tryz.s3 Tryz.y3 Tryz.z3 rfl (by decide) rfl (Cast.refl _) rfl (Cast.refl _) rfl rfl (by simp [maxLen]; omega) (by simp; omega) (by simp [go_sem]) (fun h12 => ?_)
        simp only [go_sem, Nat.reduceEqDiff, Nat.reduceAdd, Nat.reduceSub, Nat.reduceLT, Nat.reduceMul, Nat.reduceBEq, Nat.reduceLeDiff, ↓reduceIte, Int.reduceToNat, Nat.reduceGT, Int.reduceLE, Int.reduceLT, Int.reduceGE, Int.reduceGT, Int.reduceEq, Int.reduceNe, reduceCtorEq, hwk]
        exact ⟨(k + 1, h12, got ++ [n]), by simp only; omega, ⟨by simp only; omega, by rw [List.take_add_one, hRk, show typeT p.ds p.fs (envP s'.pair.1) (envP s'.pair.2) x = .ok n from e, hg1]; simp, by simp only [List.length_append, List.length_cons, List.length_nil]; omega⟩, le_mkSl rfl ⟨fun _ _ h => h, fun _ _ h => h, List.sublist_cons_self _ _, fun _ h => h⟩ (by simp [go_sem, hwk, intsAV, paramsAV, iv])⟩
      | error q =>
        rw [e] at hr
        obtain ⟨h15, rfl⟩ := hr
        simp only [go_sem, Nat.reduceEqDiff, Nat.reduceAdd, Nat.reduceSub, Nat.reduceLT, Nat.reduceMul, Nat.reduceBEq, Nat.reduceLeDiff, ↓reduceIte, Int.reduceToNat, Nat.reduceGT, Int.reduceLE, Int.reduceLT, Int.reduceGE, Int.reduceGT, Int.reduceEq, Int.reduceNe, reduceCtorEq, intsAV]
        have hql := path_len x e
        have hdn := depth_nodes x
        refine ⟨rfl, by simp, fun hd => ?_⟩
        refine append_at 0 Tryz.k30 Tryz.s3 Tryz.y3 Tryz.z3 rfl (by decide) rfl (Cast.refl _) rfl (Cast.refl _) rfl (ones_int _) (by simp [maxLen]; omega) (by simp; omega) (by simp [go_sem]) (fun h47 => ?_)
        simp only [go_sem, Nat.reduceEqDiff, Nat.reduceAdd, Nat.reduceSub, Nat.reduceLT, Nat.reduceMul, Nat.reduceBEq, Nat.reduceLeDiff, ↓reduceIte, Int.reduceToNat, Nat.reduceGT, Int.reduceLE, Int.reduceLT, Int.reduceGE, Int.reduceGT, Int.reduceEq, Int.reduceNe, reduceCtorEq]
        refine ret_le (hp' := hp) ⟨fun _ _ h => h, fun _ _ h => h, (List.sublist_cons_self _ _).trans (List.sublist_cons_self _ _), fun _ h => h⟩ ⟨rfl, ?_⟩
        have hte : typeT p.ds p.fs (envP s.V) (envP s.L) t = .error ((k : Int) :: q) := by
          have h0 := hall
          rw [resL_drop hg1 (by omega), hdr, e, resL] at h0
          exact h0
        rw [hte]
        exact ⟨h47, by simp [intsAV, iv]⟩
    · have e0 : k = (kids t).length := by have := of_decide_eq_false b1; omega
      subst e0
      rw [resL_drop hg1 (by omega), List.drop_of_length_le (by omega), resL] at hall
      simp only [List.append_nil] at hall
      have c := fun hp => rule_calls (hg := h11) (got := got) ⟨ok, hn, hg2⟩ hp
      simp only [TermG.av, TermG.cs_eq, ProgG.av, ProgG.cs, declsAV, funsAV, ScG.av, ScG.cs, intsAV] at c
      refine callX_by (c _) ?_
      clear c
      rintro r hp1 ⟨rfl, n, rfl, hv⟩
      simp only [go_sem, Nat.reduceEqDiff, Nat.reduceAdd, Nat.reduceSub, Nat.reduceLT, Nat.reduceMul, Nat.reduceBEq, Nat.reduceLeDiff, ↓reduceIte, Int.reduceToNat, Nat.reduceGT, Int.reduceLE, Int.reduceLT, Int.reduceGE, Int.reduceGT, Int.reduceEq, Int.reduceNe, reduceCtorEq]
      refine brK_mk (fun b2 => ?_) (fun b2 => ?_) <;> simp only [go_sem, Nat.reduceEqDiff, Nat.reduceAdd, Nat.reduceSub, Nat.reduceLT, Nat.reduceMul, Nat.reduceBEq, Nat.reduceLeDiff, ↓reduceIte, Int.reduceToNat, Nat.reduceGT, Int.reduceLE, Int.reduceLT, Int.reduceGE, Int.reduceGT, Int.reduceEq, Int.reduceNe, reduceCtorEq, b2]
      · obtain ⟨v, hv2⟩ := Option.isSome_iff_exists.1 b2
        have hv3 := hv v hv2
        refine ret_le (hp' := hp) (Hp.le_addSp _ _) ⟨rfl, ?_⟩
        have hte : typeT p.ds p.fs (envP s.V) (envP s.L) t = .ok n := by
          have h0 := hall
          simp only [ScG.pair] at h0
          rw [hv2, hv3] at h0
          exact h0
        rw [hte]
      · refine ret_cast (b := .tup [.v (.int .i64 0), intsAV (.slice none 0 0) [], .v (.bool false)]) (hp' := hp) ⟨rfl, fun m h => ⟨h.1, (Cast.nil 1).2 m trivial, h.2.2.1, trivial⟩⟩ (Hp.le_addSp _ _) ⟨rfl, ?_⟩
        have hno : ruleT p.ds p.fs (envP s.V) (envP s.L) t got = none := by simpa using b2
        have hte : typeT p.ds p.fs (envP s.V) (envP s.L) t = .error [] := by
          have h0 := hall
          simp only [ScG.pair] at h0
          rw [hno] at h0
          exact h0
        rw [hte]
        exact ⟨_, rfl⟩
end Go.Proofs.YtppoacgeiooppaaGreat
/- The reference of the layer 'check': Type, Fault. -/
set_option linter.unusedSimpArgs false
set_option linter.unusedVariables false
set_option maxRecDepth 20000
set_option maxHeartbeats 4000000
namespace Go.Proofs.YtppoacgeiooppaaGreat
open Go.AL

def RTypeR (res : Except (List Int) Int) (hp : Hp) (r : AV) (hp' : Hp) : Prop :=
  hp' = hp ∧ match res with
  | .ok n => r = .tup [.v (.int .i64 n), .v (.bool true)]
  | .error _ => r = .tup [.v (.int .i64 0), .v (.bool false)]
theorem rtype_calls {p : ProgG} (ok : ProgOk p) (h1 h2 : Value) (V L : List ParamG) (t : TermG) (hN : nodesT t ≤ 5000) (hva : validT p.ds p.pf (domB (envP V)) (domB (envP L)) t = true) (hV : V.length + 6 * depthT t ≤ 5864062014790) (hL : L.length + 6 * depthT t ≤ 5864062014790) (hp : Hp) :
    ACalls Tryz.prog 21 [p.av, paramsAV h1 V, paramsAV h2 L, t.av] hp (RTypeR (typeT p.ds p.fs (envP V) (envP L) t) hp) := by
  refine acalls_of Tryz.func21 rfl (by decide +kernel) (awp_sound (mu := []) _ _ _ ?_)
  simp only [go_sem, Nat.reduceEqDiff, Nat.reduceAdd, Nat.reduceSub, Nat.reduceLT, Nat.reduceMul, Nat.reduceBEq, Nat.reduceLeDiff, ↓reduceIte, Int.reduceToNat, Nat.reduceGT, Int.reduceLE, Int.reduceLT, Int.reduceGE, Int.reduceGT, Int.reduceEq, Int.reduceNe, reduceCtorEq, TermG.av, TermG.cs_eq, ProgG.av, ProgG.cs, declsAV, funsAV, paramsAV]
  intro q1 q2
  have c := typeOf_calls ok (nodesT t) t (Nat.le_refl _) hN ⟨h1, V, h2, L⟩ hva hV hL hp
  simp only [TermG.av, TermG.cs_eq, ProgG.av, ProgG.cs, declsAV, funsAV, paramsAV, ScG.av, ScG.cs] at c
  refine callX_by c ?_
  clear c
  rintro r hp1 ⟨rfl, hr⟩
  cases e : typeT p.ds p.fs (envP V) (envP L) t with
  | ok n =>
    rw [e] at hr
    simp only at hr
    subst hr
    simp only [go_sem, Nat.reduceEqDiff, Nat.reduceAdd, Nat.reduceSub, Nat.reduceLT, Nat.reduceMul, Nat.reduceBEq, Nat.reduceLeDiff, ↓reduceIte, Int.reduceToNat, Nat.reduceGT, Int.reduceLE, Int.reduceLT, Int.reduceGE, Int.reduceGT, Int.reduceEq, Int.reduceNe, reduceCtorEq]
    exact ret_same ⟨rfl, rfl⟩
  | error q =>
    rw [e] at hr
    obtain ⟨h, rfl⟩ := hr
    simp only [go_sem, Nat.reduceEqDiff, Nat.reduceAdd, Nat.reduceSub, Nat.reduceLT, Nat.reduceMul, Nat.reduceBEq, Nat.reduceLeDiff, ↓reduceIte, Int.reduceToNat, Nat.reduceGT, Int.reduceLE, Int.reduceLT, Int.reduceGE, Int.reduceGT, Int.reduceEq, Int.reduceNe, reduceCtorEq]
    exact ret_same ⟨rfl, rfl⟩
def RFaultR (p : ProgG) (hp : Hp) (r : AV) (hp' : Hp) : Prop :=
  hp' = hp ∧ match faultF p.ds p.fs 0 p.fs with
  | some (i, q) => ∃ h, r = .tup [.v (.int .i64 i), intsAV h q, .v (.bool true)]
  | none => r = .tup [.v (.int .i64 0), .v (.slice none 0 0), .v (.bool false)]
theorem rfault_calls {p : ProgG} (hv : progB p = true) (hp : Hp) : ACalls Tryz.prog 13 [p.av] hp (RFaultR p hp) := by
  have ok := prog_ok hv
  have hbd := prog_body hv
  refine acalls_fit (callable_of Tryz.func13 (by decide +kernel)) fun hfit => ?_
  have hlm : p.fs.length ≤ maxLen := by
    have h := hfit.1
    simp only [ProgG.av, ProgG.cs, AV.fit, AV.fits, declsAV, funsAV] at h
    exact fit_lst (f := FunG.av) (sz := 9) (h := p.hf) (l := p.fs) (by simpa [AV.fit] using h.2.1)
  clear hfit
  refine acalls_of Tryz.func13 rfl (by decide +kernel) (awp_sound (mu := []) _ _ _ ?_)
  simp only [go_sem, Nat.reduceEqDiff, Nat.reduceAdd, Nat.reduceSub, Nat.reduceLT, Nat.reduceMul, Nat.reduceBEq, Nat.reduceLeDiff, ↓reduceIte, Int.reduceToNat, Nat.reduceGT, Int.reduceLE, Int.reduceLT, Int.reduceGE, Int.reduceGT, Int.reduceEq, Int.reduceNe, reduceCtorEq, ProgG.av, ProgG.cs, declsAV, funsAV]
  intro q1
  refine aw_loopX 39 (fun k : Nat => [(1, .ref q1 [.lst 3 p.hd (p.ds.map DeclG.av), .lst 9 p.hf (p.fs.map FunG.av)]), (11, .lst 9 p.hf (p.fs.map FunG.av)), (12, .v (.int .i64 p.fs.length)), (13, .v (.int .i64 k))])
    (fun _ => hp) (fun k => k ≤ p.fs.length ∧ faultF p.ds p.fs 0 p.fs = faultF p.ds p.fs k (p.fs.drop k)) (fun k => p.fs.length - k) 0
    ⟨Nat.zero_le _, rfl⟩ (le_mkSl rfl (Hp.le_refl _) (by simp [go_sem])) ?_
  rintro k ⟨hk, hf⟩
  refine awp_sound (mu := []) _ _ _ ?_
  simp only [go_sem, Nat.reduceEqDiff, Nat.reduceAdd, Nat.reduceSub, Nat.reduceLT, Nat.reduceMul, Nat.reduceBEq, Nat.reduceLeDiff, ↓reduceIte, Int.reduceToNat, Nat.reduceGT, Int.reduceLE, Int.reduceLT, Int.reduceGE, Int.reduceGT, Int.reduceEq, Int.reduceNe, reduceCtorEq]
  refine brK_mk (fun b1 => ?_) (fun b1 => ?_) <;> simp only [go_sem, Nat.reduceEqDiff, Nat.reduceAdd, Nat.reduceSub, Nat.reduceLT, Nat.reduceMul, Nat.reduceBEq, Nat.reduceLeDiff, ↓reduceIte, Int.reduceToNat, Nat.reduceGT, Int.reduceLE, Int.reduceLT, Int.reduceGE, Int.reduceGT, Int.reduceEq, Int.reduceNe, reduceCtorEq, b1]
  · have hk' : k < p.fs.length := by simpa using b1
    obtain ⟨f, hx⟩ := someAt p.fs k hk'
    have hmem := List.mem_of_getElem? hx
    have hwu := upK k _ hk' hlm
    have hfp := ok.hfp f hmem
    obtain ⟨hn1, hd1, hv1⟩ := hbd f hmem
    rw [dropK hx, faultF, show bindE (fun _ => none) (f.params.map ParamG.name) (f.params.map ParamG.ty) = envP f.params from rfl] at hf
    simp only [go_sem, Nat.reduceEqDiff, Nat.reduceAdd, Nat.reduceSub, Nat.reduceLT, Nat.reduceMul, Nat.reduceBEq, Nat.reduceLeDiff, ↓reduceIte, Int.reduceToNat, Nat.reduceGT, Int.reduceLE, Int.reduceLT, Int.reduceGE, Int.reduceGT, Int.reduceEq, Int.reduceNe, reduceCtorEq, mapAt FunG.av _ _ _ hx, FunG.av, FunG.cs, paramsAV]
    intro v hv
    have hds := fun T cs => Hp.del_set _ _ T cs hv.1
    simp only [go_sem, Nat.reduceEqDiff, Nat.reduceAdd, Nat.reduceSub, Nat.reduceLT, Nat.reduceMul, Nat.reduceBEq, Nat.reduceLeDiff, ↓reduceIte, Int.reduceToNat, Nat.reduceGT, Int.reduceLE, Int.reduceLT, Int.reduceGE, Int.reduceGT, Int.reduceEq, Int.reduceNe, reduceCtorEq, hds]
    have c : ACalls Tryz.prog 45 [p.av, .agg [paramsAV f.hp f.params, .v (.slice none 0 0)], f.body.av] hp (TofR (typeT p.ds p.fs (envP f.params) (fun _ => none) f.body) hp) := by
      have c := typeOf_calls ok (nodesT f.body) f.body (Nat.le_refl _) (by omega) ⟨f.hp, f.params, .slice none 0 0, []⟩ (by rw [envP_nil, dom_params, dom_none]; exact hv1) (by simp only; omega) (by simp only [List.length_nil]; omega) hp
      rw [envP_nil] at c
      exact acalls_cast (args := [p.av, ScG.av ⟨f.hp, f.params, .slice none 0 0, []⟩, f.body.av]) rfl (fun m h => ⟨h.1, ⟨h.2.1.1, (Cast.nil 2).2 m trivial, trivial⟩, h.2.2⟩) c
    simp only [TermG.av, TermG.cs_eq, ProgG.av, ProgG.cs, declsAV, funsAV, paramsAV, ScG.av, ScG.cs] at c
    refine callX_by c ?_
    clear c
    rintro r hp1 ⟨rfl, hr⟩
    cases e : typeT p.ds p.fs (envP f.params) (fun _ => none) f.body with
    | error q =>
      rw [e] at hr hf
      obtain ⟨h, rfl⟩ := hr
      simp only at hf
      simp only [go_sem, Nat.reduceEqDiff, Nat.reduceAdd, Nat.reduceSub, Nat.reduceLT, Nat.reduceMul, Nat.reduceBEq, Nat.reduceLeDiff, ↓reduceIte, Int.reduceToNat, Nat.reduceGT, Int.reduceLE, Int.reduceLT, Int.reduceGE, Int.reduceGT, Int.reduceEq, Int.reduceNe, reduceCtorEq]
      exact ret_same (by rw [RFaultR, hf]; exact ⟨rfl, h, rfl⟩)
    | ok n =>
      rw [e] at hr hf
      simp only at hf hr
      subst hr
      simp only [go_sem, Nat.reduceEqDiff, Nat.reduceAdd, Nat.reduceSub, Nat.reduceLT, Nat.reduceMul, Nat.reduceBEq, Nat.reduceLeDiff, ↓reduceIte, Int.reduceToNat, Nat.reduceGT, Int.reduceLE, Int.reduceLT, Int.reduceGE, Int.reduceGT, Int.reduceEq, Int.reduceNe, reduceCtorEq]
      refine brK_mk (fun b2 => ?_) (fun b2 => ?_) <;> simp only [go_sem, Nat.reduceEqDiff, Nat.reduceAdd, Nat.reduceSub, Nat.reduceLT, Nat.reduceMul, Nat.reduceBEq, Nat.reduceLeDiff, ↓reduceIte, Int.reduceToNat, Nat.reduceGT, Int.reduceLE, Int.reduceLT, Int.reduceGE, Int.reduceGT, Int.reduceEq, Int.reduceNe, reduceCtorEq, b2, hwu]
      · rw [if_pos (by simpa using b2)] at hf
        exact ⟨k + 1, by omega, ⟨by omega, hf⟩, le_mkSl rfl (Hp.le_refl _) (by simp [go_sem, hwu])⟩
      · rw [if_neg (by simpa using b2)] at hf
        exact ret_cast (b := .tup [.v (.int .i64 k), intsAV (.slice none 0 0) [], .v (.bool true)]) ⟨rfl, fun m h => ⟨h.1, (Cast.nil 1).2 m trivial, h.2.2.1, trivial⟩⟩ (Hp.le_refl _) (by rw [RFaultR, hf]; exact ⟨rfl, _, rfl⟩)
  · have e1 : k = p.fs.length := by simp at b1; omega
    subst e1
    rw [List.drop_of_length_le (Nat.le_refl _), faultF] at hf
    exact ret_same (by rw [RFaultR, hf]; exact ⟨rfl, rfl⟩)
end Go.Proofs.YtppoacgeiooppaaGreat
