/- The law of the layer 'check': only, types. -/
import Derived.Test.YtppoacgeiooppaaCT42
import Derived.Test.YtppoacgeiooppaaCAL34
set_option linter.unusedSimpArgs false
set_option linter.unusedVariables false
set_option maxRecDepth 20000
set_option maxHeartbeats 4000000
namespace Go.Proofs.Ytppoacgeiooppaa
open Go.AL

def onlyP (l : List ParamG) (names : List Bytes) : List ParamG := l.filter fun x => hasB names x.name
theorem ones_params2 (l : List ParamG) : ((l.map ParamG.av).flatMap AV.cells).all AV.one = true := by
  induction l with
  | nil => rfl
  | cons a l ih => rw [List.map_cons, List.flatMap_cons, List.all_append, ih]; rfl
theorem only_take {l : List ParamG} {names : List Bytes} {k : Nat} {x : ParamG} (h : l[k]? = some x) : onlyP (l.take (k + 1)) names = if hasB names x.name = true then onlyP (l.take k) names ++ [x] else onlyP (l.take k) names := by
  rw [List.take_add_one, h, onlyP, List.filter_append]
  cases e : hasB names x.name <;> simp [onlyP, e]
theorem only_len (l : List ParamG) (names : List Bytes) (k : Nat) : (onlyP (l.take k) names).length ≤ l.length :=
  Nat.le_trans (List.length_filter_le _ _) (by rw [List.length_take]; omega)
theorem only_calls (h1 h2 : Value) (l : List ParamG) (names : List Bytes) (hl : l.length ≤ 5864062014634) (hp : Hp) : ACalls Try.prog 12 [paramsAV h1 l, strsAV h2 names] hp (fun r hp' => (∃ h, r = paramsAV h (onlyP l names)) ∧ hp' = hp) := by
  refine acalls_addNil 73 2 ?_
  refine acalls_of Try.func12 rfl (by decide +kernel) (awp_sound (mu := []) _ _ _ ?_)
  simp only [go_sem, Nat.reduceEqDiff, Nat.reduceAdd, Nat.reduceSub, Nat.reduceLT, Nat.reduceMul, Nat.reduceBEq, Nat.reduceLeDiff, ↓reduceIte, Int.reduceToNat, Nat.reduceGT, Int.reduceLE, Int.reduceLT, Int.reduceGE, Int.reduceGT, Int.reduceEq, Int.reduceNe, reduceCtorEq, paramsAV]
  refine aw_loopX 24 (fun x : Nat × Value => [(1, strsAV h2 names), (5, paramsAV x.2 (onlyP (l.take x.1) names)), (8, .lst 2 h1 (l.map ParamG.av)), (9, .v (.int .i64 l.length)), (10, .v (.int .i64 x.1))])
    (fun x => hp.setSp ((73, 2, x.2) :: hp.sp)) (fun x => x.1 ≤ l.length) (fun x => l.length - x.1) (0, .slice none 0 0) (Nat.zero_le _)
    (le_of_cast rfl (Hp.le_refl _) (by simp [go_sem, Cast.refl, paramsAV, onlyP]; exact Cast.nil 2)) ?_
  rintro ⟨k, h5⟩ hk
  simp only at hk
  refine awp_sound (mu := []) _ _ _ ?_
  simp only [go_sem, Nat.reduceEqDiff, Nat.reduceAdd, Nat.reduceSub, Nat.reduceLT, Nat.reduceMul, Nat.reduceBEq, Nat.reduceLeDiff, ↓reduceIte, Int.reduceToNat, Nat.reduceGT, Int.reduceLE, Int.reduceLT, Int.reduceGE, Int.reduceGT, Int.reduceEq, Int.reduceNe, reduceCtorEq, paramsAV]
  refine brK_mk (fun b1 => ?_) (fun b1 => ?_) <;> simp only [go_sem, Nat.reduceEqDiff, Nat.reduceAdd, Nat.reduceSub, Nat.reduceLT, Nat.reduceMul, Nat.reduceBEq, Nat.reduceLeDiff, ↓reduceIte, Int.reduceToNat, Nat.reduceGT, Int.reduceLE, Int.reduceLT, Int.reduceGE, Int.reduceGT, Int.reduceEq, Int.reduceNe, reduceCtorEq, b1]
  · have hk' : k < l.length := by simpa using b1
    obtain ⟨x, hx⟩ := someAt l k hk'
    have hwu : IntKind.i64.wrap ((k : Int) + 1) = ((k + 1 : Nat) : Int) := IntWalk.i64_in _ (by omega)
    have htk := only_take (names := names) hx
    have hlen := only_len l names k
    simp only [go_sem, Nat.reduceEqDiff, Nat.reduceAdd, Nat.reduceSub, Nat.reduceLT, Nat.reduceMul, Nat.reduceBEq, Nat.reduceLeDiff, ↓reduceIte, Int.reduceToNat, Nat.reduceGT, Int.reduceLE, Int.reduceLT, Int.reduceGE, Int.reduceGT, Int.reduceEq, Int.reduceNe, reduceCtorEq, mapAt ParamG.av _ _ _ hx, ParamG.av, ParamG.cs]
    intro v hv
    have hdv := fun T cs => Hp.del_set _ _ T cs hv.1
    simp only [hdv]
    refine callX_by (in_calls h2 names x.name _) ?_
    rintro r hp1 ⟨rfl, rfl⟩
    simp only [go_sem, Nat.reduceEqDiff, Nat.reduceAdd, Nat.reduceSub, Nat.reduceLT, Nat.reduceMul, Nat.reduceBEq, Nat.reduceLeDiff, ↓reduceIte, Int.reduceToNat, Nat.reduceGT, Int.reduceLE, Int.reduceLT, Int.reduceGE, Int.reduceGT, Int.reduceEq, Int.reduceNe, reduceCtorEq]
    refine brK_mk (fun b2 => ?_) (fun b2 => ?_) <;> simp only [go_sem, Nat.reduceEqDiff, Nat.reduceAdd, Nat.reduceSub, Nat.reduceLT, Nat.reduceMul, Nat.reduceBEq, Nat.reduceLeDiff, ↓reduceIte, Int.reduceToNat, Nat.reduceGT, Int.reduceLE, Int.reduceLT, Int.reduceGE, Int.reduceGT, Int.reduceEq, Int.reduceNe, reduceCtorEq, b2, hwu]
    · refine ⟨rfl, by simp, fun hd => ?_⟩
      refine append_at 1 Try.k26 Try.s73 Try.y73 Try.z73 rfl (by decide) rfl (Cast.refl _) rfl (Cast.refl _) rfl rfl (by simp [maxLen]; omega) (by simp; omega) (by simp [go_sem]) (fun h6 => ?_)
      simp only [go_sem, Nat.reduceEqDiff, Nat.reduceAdd, Nat.reduceSub, Nat.reduceLT, Nat.reduceMul, Nat.reduceBEq, Nat.reduceLeDiff, ↓reduceIte, Int.reduceToNat, Nat.reduceGT, Int.reduceLE, Int.reduceLT, Int.reduceGE, Int.reduceGT, Int.reduceEq, Int.reduceNe, reduceCtorEq, hwu]
      rw [if_pos b2] at htk
      exact ⟨(k + 1, h6), by simp only; omega, by simp only; omega, le_mkSl rfl ⟨fun _ _ h => h, fun _ _ h => h, List.sublist_cons_self _ _, fun _ h => h⟩ (by rw [htk]; simp [go_sem, hwu, paramsAV, ParamG.av, ParamG.cs])⟩
    · rw [if_neg (by rw [b2]; decide)] at htk
      exact ⟨(k + 1, h5), by simp only; omega, by simp only; omega, le_mkSl rfl (Hp.le_refl _) (by rw [htk]; simp [go_sem, hwu, paramsAV])⟩
  · have e : k = l.length := by have := of_decide_eq_false b1; omega
    subst e
    rw [List.take_length]
    exact ret_le (Hp.le_addSp _ _) ⟨⟨h5, rfl⟩, rfl⟩
theorem types_calls (p : ProgG) (h1 : Value) (l : List ParamG) (hp : Hp) : ACalls Try.prog 13 [p.av, paramsAV h1 l] hp (fun r hp' => r = .v (.bool (typesB p.ds l)) ∧ hp' = hp) := by
  refine acalls_fit (callable_of Try.func13 (by decide +kernel)) fun hfit => ?_
  have hl : l.length ≤ maxLen := fit_lst hfit.2.1
  clear hfit
  refine acalls_of Try.func13 rfl (by decide +kernel) (awp_sound (mu := []) _ _ _ ?_)
  simp only [go_sem, Nat.reduceEqDiff, Nat.reduceAdd, Nat.reduceSub, Nat.reduceLT, Nat.reduceMul, Nat.reduceBEq, Nat.reduceLeDiff, ↓reduceIte, Int.reduceToNat, Nat.reduceGT, Int.reduceLE, Int.reduceLT, Int.reduceGE, Int.reduceGT, Int.reduceEq, Int.reduceNe, reduceCtorEq, ProgG.av, ProgG.cs, declsAV, funsAV, paramsAV]
  intro q1
  refine aw_loopX 25 (fun k : Nat => [(2, .ref q1 [.lst 3 p.hd (p.ds.map DeclG.av), .lst 9 p.hf (p.fs.map FunG.av)]), (7, .lst 2 h1 (l.map ParamG.av)), (8, .v (.int .i64 l.length)), (9, .v (.int .i64 k))])
    (fun _ => hp) (fun k => k ≤ l.length ∧ typesB p.ds (l.drop k) = typesB p.ds l) (fun k => l.length - k) 0 ⟨Nat.zero_le _, rfl⟩ (le_mkSl rfl (Hp.le_refl _) (by simp [go_sem])) ?_
  rintro k ⟨hk, hd⟩
  refine awp_sound (mu := []) _ _ _ ?_
  simp only [go_sem, Nat.reduceEqDiff, Nat.reduceAdd, Nat.reduceSub, Nat.reduceLT, Nat.reduceMul, Nat.reduceBEq, Nat.reduceLeDiff, ↓reduceIte, Int.reduceToNat, Nat.reduceGT, Int.reduceLE, Int.reduceLT, Int.reduceGE, Int.reduceGT, Int.reduceEq, Int.reduceNe, reduceCtorEq]
  refine brK_mk (fun b1 => ?_) (fun b1 => ?_) <;> simp only [go_sem, Nat.reduceEqDiff, Nat.reduceAdd, Nat.reduceSub, Nat.reduceLT, Nat.reduceMul, Nat.reduceBEq, Nat.reduceLeDiff, ↓reduceIte, Int.reduceToNat, Nat.reduceGT, Int.reduceLE, Int.reduceLT, Int.reduceGE, Int.reduceGT, Int.reduceEq, Int.reduceNe, reduceCtorEq, b1]
  · have hk' : k < l.length := by simpa using b1
    obtain ⟨x, hx⟩ := someAt l k hk'
    have hwu := upK k _ hk' hl
    rw [dropK hx, typesB, List.all_cons, ← typesB] at hd
    simp only [go_sem, Nat.reduceEqDiff, Nat.reduceAdd, Nat.reduceSub, Nat.reduceLT, Nat.reduceMul, Nat.reduceBEq, Nat.reduceLeDiff, ↓reduceIte, Int.reduceToNat, Nat.reduceGT, Int.reduceLE, Int.reduceLT, Int.reduceGE, Int.reduceGT, Int.reduceEq, Int.reduceNe, reduceCtorEq, mapAt ParamG.av _ _ _ hx, ParamG.av, ParamG.cs]
    intro v hv
    have hdv := fun T cs => Hp.del_set _ _ T cs hv.1
    refine brK_mk (fun b2 => ?_) (fun b2 => ?_) <;> simp only [go_sem, Nat.reduceEqDiff, Nat.reduceAdd, Nat.reduceSub, Nat.reduceLT, Nat.reduceMul, Nat.reduceBEq, Nat.reduceLeDiff, ↓reduceIte, Int.reduceToNat, Nat.reduceGT, Int.reduceLE, Int.reduceLT, Int.reduceGE, Int.reduceGT, Int.reduceEq, Int.reduceNe, reduceCtorEq, b2, hwu, hdv]
    · have h : typB p.ds x.ty = false := by have := of_decide_eq_true b2; simp [typB]; omega
      exact ret_same ⟨by rw [← hd, h, Bool.false_and], rfl⟩
    · refine brK_mk (fun b3 => ?_) (fun b3 => ?_) <;> simp only [go_sem, Nat.reduceEqDiff, Nat.reduceAdd, Nat.reduceSub, Nat.reduceLT, Nat.reduceMul, Nat.reduceBEq, Nat.reduceLeDiff, ↓reduceIte, Int.reduceToNat, Nat.reduceGT, Int.reduceLE, Int.reduceLT, Int.reduceGE, Int.reduceGT, Int.reduceEq, Int.reduceNe, reduceCtorEq, b3, hwu, hdv]
      · have h : typB p.ds x.ty = false := by have := of_decide_eq_true b3; simp [typB]; omega
        exact ret_same ⟨by rw [← hd, h, Bool.false_and], rfl⟩
      · have h : typB p.ds x.ty = true := by have h1 := of_decide_eq_false b2; have h2 := of_decide_eq_false b3; simp [typB]; omega
        rw [h, Bool.true_and] at hd
        exact ⟨k + 1, by omega, ⟨by omega, hd⟩, le_mkSl rfl (Hp.le_refl _) (by simp [go_sem, hwu])⟩
  · have e : k = l.length := by have := of_decide_eq_false b1; omega
    rw [e, List.drop_of_length_le (Nat.le_refl _)] at hd
    exact ret_same ⟨by rw [← hd]; rfl, rfl⟩
theorem rfreeT_calls (t : TermG) (hN : nodesT t ≤ 5000) (hM : nmT t ≤ 5000000000000) (hp : Hp) : ACalls Try.prog 11 [t.av] hp (FreeR (frT (fun _ => false) (fun _ => false) t ([], [])) hp) := by
  refine acalls_of Try.func11 rfl (by decide +kernel) (awp_sound (mu := []) _ _ _ ?_)
  simp only [go_sem, Nat.reduceEqDiff, Nat.reduceAdd, Nat.reduceSub, Nat.reduceLT, Nat.reduceMul, Nat.reduceBEq, Nat.reduceLeDiff, ↓reduceIte, Int.reduceToNat, Nat.reduceGT, Int.reduceLE, Int.reduceLT, Int.reduceGE, Int.reduceGT, Int.reduceEq, Int.reduceNe, reduceCtorEq, TermG.av, TermG.cs_eq]
  intro q1
  have c := rfree_calls (nodesT t) t (Nat.le_refl _) (.slice none 0 0) (.slice none 0 0) (.slice none 0 0) (.slice none 0 0) [] [] [] [] (by simp only [List.length_nil]; omega) (by simp only [List.length_nil]; omega) (by simp only [List.length_nil]; omega) (by simp only [List.length_nil]; omega) hp
  have c : ACalls Try.prog 36 [t.av, .v (.slice none 0 0), .v (.slice none 0 0), .v (.slice none 0 0), .v (.slice none 0 0)] hp (FreeR (frT (hasB []) (hasB []) t ([], [])) hp) := acalls_cast (args := [t.av, strsAV (.slice none 0 0) [], strsAV (.slice none 0 0) [], strsAV (.slice none 0 0) [], strsAV (.slice none 0 0) []]) rfl (fun m h => ⟨h.1, (Cast.nil 1).2 m trivial, (Cast.nil 1).2 m trivial, (Cast.nil 1).2 m trivial, (Cast.nil 1).2 m trivial, trivial⟩) c
  simp only [TermG.av, TermG.cs_eq] at c
  refine callX_by c ?_
  rintro r hp1 ⟨⟨ha, hb, rfl⟩, rfl⟩
  simp only [go_sem, Nat.reduceEqDiff, Nat.reduceAdd, Nat.reduceSub, Nat.reduceLT, Nat.reduceMul, Nat.reduceBEq, Nat.reduceLeDiff, ↓reduceIte, Int.reduceToNat, Nat.reduceGT, Int.reduceLE, Int.reduceLT, Int.reduceGE, Int.reduceGT, Int.reduceEq, Int.reduceNe, reduceCtorEq]
  exact ret_same ⟨⟨ha, hb, rfl⟩, rfl⟩
end Go.Proofs.Ytppoacgeiooppaa
/- One type at most, and it depends on the types of the free variables and labels alone: in plain words. -/
set_option linter.unusedSimpArgs false
set_option linter.unusedVariables false
set_option maxRecDepth 20000
set_option maxHeartbeats 4000000
namespace Go.Proofs.Ytppoacgeiooppaa
open Go.AL

/-! ### What is free in a valid term is in scope -/
theorem node_var {ds : List DeclG} {pf : List Nat} {V L : Bytes → Bool} {t : TermG} (h : nodeB ds pf V L t = true) (ho : t.op = 0) : V t.name = true := by
  simp only [nodeB, if_pos ho, Bool.and_eq_true] at h; exact h.2
theorem node_goto {ds : List DeclG} {pf : List Nat} {V L : Bytes → Bool} {t : TermG} (h : nodeB ds pf V L t = true) (ho : t.op = 12) : L t.name = true ∧ t.args.length = 1 := by
  simp only [nodeB, ho] at h
  simp at h; exact ⟨h.1.2, h.1.1.1.2⟩
theorem node_label {ds : List DeclG} {pf : List Nat} {V L : Bytes → Bool} {t : TermG} (h : nodeB ds pf V L t = true) (ho : t.op = 11) : t.args.length = 1 := by
  simp only [nodeB, ho] at h
  simp at h; exact h.1.1.1.2
section
variable {ds : List DeclG} {pf : List Nat}
mutual
theorem free_valid1 : ∀ (t : TermG) {V L : Bytes → Bool} {x : Bytes}, validT ds pf V L t = true → fvT x t = true → V x = true
  | .mk op n name ty ha args hc cls, V, L, x, hv, hf => by
    obtain ⟨hn, hv1, hv2, _⟩ := valid_parts hv
    have hv1 : validA ds pf V L op name 0 args = true := hv1
    have hv2 : validC ds pf V L cls = true := hv2
    rw [fvT, Bool.or_eq_true, Bool.or_eq_true, Bool.and_eq_true, decide_eq_true_eq, decide_eq_true_eq] at hf
    rcases hf with ⟨h1, h2⟩ | h | h
    · subst h2; exact node_var hn h1
    · exact free_validA1 args 0 hv1 h
    · exact free_validC1 cls hv2 h
theorem free_validA1 : ∀ (l : List TermG) (k : Nat) {op : Int} {name : Bytes} {V L : Bytes → Bool} {x : Bytes}, validA ds pf V L op name k l = true → fvA x op name k l = true → V x = true
  | [], k, op, name, V, L, x, hv, hf => by rw [fvA] at hf; cases hf
  | a :: r, k, op, name, V, L, x, hv, hf => by
    rw [validA_cons, Bool.and_eq_true] at hv
    rw [fvA, Bool.or_eq_true, Bool.and_eq_true, Bool.not_eq_true'] at hf
    rcases hf with ⟨h1, h2⟩ | h
    · have := free_valid1 a hv.1 h1
      simp only [argV] at this
      by_cases e : op = 8 ∧ k = 1
      · rw [if_pos e, addP, Bool.or_eq_true] at this
        rcases this with h | h
        · rw [decide_eq_true e.1, decide_eq_true e.2, h] at h2; cases h2
        · exact h
      · rwa [if_neg e] at this
    · exact free_validA1 r (k + 1) hv.2 h
theorem free_validC1 : ∀ (l : List ClauseG) {V L : Bytes → Bool} {x : Bytes}, validC ds pf V L l = true → fvC x l = true → V x = true
  | [], V, L, x, hv, hf => by rw [fvC] at hf; cases hf
  | c :: r, V, L, x, hv, hf => by
    rw [validC, Bool.and_eq_true] at hv
    rw [fvC, Bool.or_eq_true] at hf
    rcases hf with h | h
    · exact free_validB1 c hv.1 h
    · exact free_validC1 r hv.2 h
theorem free_validB1 : ∀ (c : ClauseG) {V L : Bytes → Bool} {x : Bytes}, validB1 ds pf V L c = true → fvB x c = true → V x = true
  | .mk hn names b, V, L, x, hv, hf => by
    rw [validB1] at hv
    rw [fvB, Bool.and_eq_true, Bool.not_eq_true'] at hf
    have := free_valid1 b hv hf.1
    rw [addL, hf.2, Bool.false_or] at this; exact this
end
mutual
theorem free_valid2 : ∀ (t : TermG) {V L : Bytes → Bool} {x : Bytes}, validT ds pf V L t = true → flT x t = true → L x = true
  | .mk op n name ty ha args hc cls, V, L, x, hv, hf => by
    obtain ⟨hn, hv1, hv2, _⟩ := valid_parts hv
    have hv1 : validA ds pf V L op name 0 args = true := hv1
    have hv2 : validC ds pf V L cls = true := hv2
    rw [flT, Bool.or_eq_true, Bool.or_eq_true, Bool.and_eq_true, decide_eq_true_eq, decide_eq_true_eq] at hf
    rcases hf with ⟨h1, h2⟩ | h | h
    · subst h2; exact (node_goto hn h1).1
    · exact free_validA2 args 0 (fun e => .inr ⟨rfl, by have h : args.length = 1 := node_label hn e; omega⟩) hv1 h
    · exact free_validC2 cls hv2 h
theorem free_validA2 : ∀ (l : List TermG) (k : Nat) {op : Int} {name : Bytes} {V L : Bytes → Bool} {x : Bytes}, (op = 11 → l = [] ∨ (k = 0 ∧ l.length ≤ 1)) → validA ds pf V L op name k l = true → flA x op name k l = true → L x = true
  | [], k, op, name, V, L, x, hk, hv, hf => by rw [flA] at hf; cases hf
  | a :: r, k, op, name, V, L, x, hk, hv, hf => by
    rw [validA_cons, Bool.and_eq_true] at hv
    rw [flA, Bool.or_eq_true, Bool.and_eq_true, Bool.not_eq_true'] at hf
    have hk' : op = 11 → k = 0 ∧ r = [] := fun e => by
      rcases hk e with h | h
      · cases h
      · exact ⟨h.1, List.eq_nil_of_length_eq_zero (by have := h.2; simp at this; simpa using this)⟩
    rcases hf with ⟨h1, h2⟩ | h
    · have := free_valid2 a hv.1 h1
      simp only [argL] at this
      by_cases e : op = 11
      · rw [if_pos e, addP, Bool.or_eq_true] at this
        rcases this with h | h
        · rw [decide_eq_true e, decide_eq_true (hk' e).1, h] at h2; cases h2
        · exact h
      · rwa [if_neg e] at this
    · exact free_validA2 r (k + 1) (fun e => .inl (hk' e).2) hv.2 h
theorem free_validC2 : ∀ (l : List ClauseG) {V L : Bytes → Bool} {x : Bytes}, validC ds pf V L l = true → flC x l = true → L x = true
  | [], V, L, x, hv, hf => by rw [flC] at hf; cases hf
  | c :: r, V, L, x, hv, hf => by
    rw [validC, Bool.and_eq_true] at hv
    rw [flC, Bool.or_eq_true] at hf
    rcases hf with h | h
    · exact free_validB2 c hv.1 h
    · exact free_validC2 r hv.2 h
theorem free_validB2 : ∀ (c : ClauseG) {V L : Bytes → Bool} {x : Bytes}, validB1 ds pf V L c = true → flB x c = true → L x = true
  | .mk hn names b, V, L, x, hv, hf => by
    rw [validB1] at hv
    rw [flB] at hf
    exact free_valid2 b hv hf
end
end
/-! ### The free names as lists -/
def fvL (t : TermG) : List Bytes := (frT (fun _ => false) (fun _ => false) t ([], [])).1
def flL (t : TermG) : List Bytes := (frT (fun _ => false) (fun _ => false) t ([], [])).2
theorem has_fvL (t : TermG) (x : Bytes) : hasB (fvL t) x = fvT x t := by rw [fvL, frT_has1]; simp [hasB]
theorem has_flL (t : TermG) (x : Bytes) : hasB (flL t) x = flT x t := by rw [flL, frT_has2]; simp [hasB]
theorem has_only (l : List ParamG) (names : List Bytes) (x : Bytes) (h : hasB names x = true) : hasB (namesP (onlyP l names)) x = hasB (namesP l) x := by
  induction l with
  | nil => rfl
  | cons a l ih =>
    simp only [onlyP, namesP, hasB, List.filter_cons] at ih ⊢
    by_cases e : (names.any fun e => decide (a.name = e)) = true
    · simp only [if_pos e, List.map_cons, List.any_cons, ih]
    · simp only [if_neg e, List.map_cons, List.any_cons, ih]
      have : decide (x = a.name) = false := decide_eq_false fun hx => e (by subst hx; exact h)
      rw [this, Bool.false_or]
theorem bind_only (names : List Bytes) (x : Bytes) (h : hasB names x = true) : ∀ (l : List ParamG) (E E' : Bytes → Option Int), E x = E' x → bindE E ((onlyP l names).map ParamG.name) ((onlyP l names).map ParamG.ty) x = bindE E' (l.map ParamG.name) (l.map ParamG.ty) x
  | [], E, E', he => by simp only [onlyP, List.filter_nil, List.map_nil, bindE_nil]; exact he
  | a :: l, E, E', he => by
    by_cases e : hasB names a.name = true
    · have e1 : onlyP (a :: l) names = a :: onlyP l names := by simp only [onlyP, List.filter_cons, if_pos e]
      rw [e1, List.map_cons, List.map_cons, List.map_cons, List.map_cons, bindE, bindE]
      exact bind_only names x h l _ _ (setE_congr fun _ => he)
    · have e1 : onlyP (a :: l) names = onlyP l names := by simp only [onlyP, List.filter_cons, if_neg e]
      rw [e1, List.map_cons, List.map_cons, bindE]
      refine bind_only names x h l _ _ ?_
      have : x ≠ a.name := fun hx => e (by rw [← hx]; exact h)
      rw [setE, if_neg this]; exact he
theorem env_only (l : List ParamG) (names : List Bytes) (x : Bytes) (h : hasB names x = true) : envP (onlyP l names) x = envP l x := bind_only names x h l _ _ rfl
theorem env_more (m l : List ParamG) (x : Bytes) (h : hasB (namesP l) x = true) : envP (m ++ l) x = envP l x := by
  rw [envP, List.map_append, List.map_append]
  have ap : ∀ (a b : List Bytes) (y z : List Int) (E : Bytes → Option Int), a.length = y.length → bindE E (a ++ b) (y ++ z) = bindE (bindE E a y) b z := by
    intro a
    induction a with
    | nil => intro b y z E hl; cases y with
      | nil => rw [List.nil_append, List.nil_append, bindE_nil]
      | cons _ _ => cases hl
    | cons s a ih => intro b y z E hl; cases y with
      | nil => cases hl
      | cons u y => rw [List.cons_append, List.cons_append, bindE, bindE, ih b y z _ (by simpa using hl)]
  rw [ap _ _ _ _ _ (by simp), envP]
  refine bindE_congr _ _ fun hh => ?_
  rw [List.length_map, ← List.length_map (f := ParamG.name), List.take_length] at hh
  rw [namesP] at h; rw [h] at hh; cases hh
theorem types_only {ds : List DeclG} {l : List ParamG} {names : List Bytes} (h : typesB ds l = true) : typesB ds (onlyP l names) = true := by
  rw [typesB, List.all_eq_true] at h ⊢
  exact fun x hx => h x (List.mem_filter.1 hx).1
/-- Whether a type was asked of a valid term. -/
structure Asked (p : ProgG) (V L : List ParamG) (t : TermG) : Prop where
  hp : progB p = true
  hV : typesB p.ds V = true
  hL : typesB p.ds L = true
  hi : isB p (hasB (namesP V)) (hasB (namesP L)) t = true
theorem asked_of {p : ProgG} {V L : List ParamG} {t : TermG} (h : (typeN p V L t).2 = 0 ∨ (typeN p V L t).2 = 40) : Asked p V L t := by
  rw [typeN] at h
  by_cases h1 : progB p = true
  · rw [if_pos h1] at h
    by_cases h2 : (typesB p.ds V && typesB p.ds L) = true
    · rw [if_pos h2] at h
      rw [Bool.and_eq_true] at h2
      by_cases h3 : isB p (hasB (namesP V)) (hasB (namesP L)) t = true
      · exact ⟨h1, h2.1, h2.2, h3⟩
      · rw [if_neg h3] at h; simp at h
    · rw [if_neg h2] at h; simp at h
  · rw [if_neg h1] at h; simp at h
theorem not_asked {p : ProgG} {V L : List ParamG} {t : TermG} (h0 : (typeN p V L t).2 ≠ 0) (h40 : (typeN p V L t).2 ≠ 40) : (typeN p V L t).1 = 0 := by
  rw [typeN] at h0 h40 ⊢
  by_cases h1 : progB p = true
  · rw [if_pos h1] at h0 h40 ⊢
    by_cases h2 : (typesB p.ds V && typesB p.ds L) = true
    · rw [if_pos h2] at h0 h40 ⊢
      by_cases h3 : isB p (hasB (namesP V)) (hasB (namesP L)) t = true
      · rw [if_pos h3] at h0 h40 ⊢
        cases e : typeT p.ds p.fs (envP V) (envP L) t with
        | ok n => rw [e] at h0; simp at h0
        | error q => rfl
      · rw [if_neg h3]
    · rw [if_neg h2]
  · rw [if_neg h1]
theorem typeN_of {p : ProgG} {V L : List ParamG} {t : TermG} (a : Asked p V L t) : typeN p V L t = match typeT p.ds p.fs (envP V) (envP L) t with | .ok n => (n, 0) | .error _ => (0, 40) := by
  rw [typeN, if_pos a.hp, a.hV, a.hL, if_pos (show (true && true) = true from rfl), if_pos a.hi]
  cases typeT p.ds p.fs (envP V) (envP L) t <;> rfl
theorem asked_parts {p : ProgG} {V L : List ParamG} {t : TermG} (a : Asked p V L t) : (nodesT t : Int) ≤ 600 ∧ 1 + (depthT t : Int) ≤ 25 ∧ validT p.ds p.pf (hasB (namesP V)) (hasB (namesP L)) t = true := by
  have := a.hi
  rw [isB] at this
  exact okB_iff.1 this
theorem typeN_congr {p : ProgG} {V L V' L' : List ParamG} {t : TermG} (a : Asked p V L t) (hV : typesB p.ds V' = true) (hL : typesB p.ds L' = true) (h1 : ∀ x, fvT x t = true → hasB (namesP V) x = hasB (namesP V') x ∧ envP V x = envP V' x) (h2 : ∀ x, flT x t = true → hasB (namesP L) x = hasB (namesP L') x ∧ envP L x = envP L' x) : typeN p V' L' t = typeN p V L t := by
  obtain ⟨_, _, hva⟩ := asked_parts a
  have e1 : isB p (hasB (namesP V')) (hasB (namesP L')) t = true := by
    rw [isB, ← validT_congr t (fun x h => (h1 x h).1) (fun x h => (h2 x h).1)]; exact a.hi
  rw [typeN_of a, typeN_of ⟨a.hp, hV, hL, e1⟩, typeT_congr t hva (fun x h => (h1 x h).2) (fun x h => (h2 x h).2)]
theorem typeN_only {p : ProgG} {V L : List ParamG} {t : TermG} (a : Asked p V L t) : typeN p (onlyP V (fvL t)) (onlyP L (flL t)) t = typeN p V L t :=
  typeN_congr a (types_only a.hV) (types_only a.hL) (fun x h => by rw [← has_fvL] at h; exact ⟨(has_only _ _ _ h).symm, (env_only _ _ _ h).symm⟩) (fun x h => by rw [← has_flL] at h; exact ⟨(has_only _ _ _ h).symm, (env_only _ _ _ h).symm⟩)
theorem typeN_more {p : ProgG} {V L m : List ParamG} {t : TermG} (a : Asked p V L t) (hm : typesB p.ds m = true) : typeN p (m ++ V) (m ++ L) t = typeN p V L t := by
  obtain ⟨_, _, hva⟩ := asked_parts a
  have ht : ∀ l, typesB p.ds l = true → typesB p.ds (m ++ l) = true := fun l hl => by rw [typesB, List.all_append, ← typesB, ← typesB, hm, hl]; rfl
  refine typeN_congr a (ht _ a.hV) (ht _ a.hL) (fun x h => ?_) (fun x h => ?_)
  · have hx := free_valid1 t hva h
    exact ⟨by rw [hx, namesP, List.map_append]; simp only [hasB, namesP] at hx ⊢; rw [List.any_append, hx, Bool.or_true], (env_more _ _ _ hx).symm⟩
  · have hx := free_valid2 t hva h
    exact ⟨by rw [hx, namesP, List.map_append]; simp only [hasB, namesP] at hx ⊢; rw [List.any_append, hx, Bool.or_true], (env_more _ _ _ hx).symm⟩
/-! ### The let that binds a variable to the term -/
def zzV : TermG := .mk 0 0 [122, 122] 0 (.slice none 0 0) [] (.slice none 0 0) []
def letT (h : Value) (u : Int) (t : TermG) : TermG := .mk 8 0 [122, 122] u h [t, zzV] (.slice none 0 0) []
theorem typeN_let {p : ProgG} {V L : List ParamG} {t : TermG} (a : Asked p V L t) (h : Value) (u : Int) (hu : typB p.ds u = true) (hn : nodesT t ≤ 598) (hd : depthT t < 24) :
    typeN p V L (letT h u t) = if (typeN p V L t).2 = 0 ∧ u = (typeN p V L t).1 then (u, 0) else (0, 40) := by
  obtain ⟨_, _, hva⟩ := asked_parts a
  have hz : depthT zzV = 1 := by rw [zzV, depthT, depthA, depthC]; rfl
  have hz2 : nodesT zzV = 1 := by rw [zzV, nodesT, nodesA, nodesC]
  have hdp : 1 ≤ depthT t := by rw [depthT_eq]; omega
  have e1 : nodesT (letT h u t) = nodesT t + 2 := by rw [letT, nodesT, nodesA, nodesA, nodesA, nodesC, hz2]; omega
  have e2 : depthT (letT h u t) = depthT t + 1 := by rw [letT, depthT, depthA, depthA, depthA, depthC, hz]; omega
  have e3 : validT p.ds p.pf (hasB (namesP V)) (hasB (namesP L)) (letT h u t) = true := by
    rw [letT, validT, validA_cons, validA_cons, validA_nil, validC_nil]
    have n1 : nodeB p.ds p.pf (hasB (namesP V)) (hasB (namesP L)) (.mk 8 0 [122, 122] u h [t, zzV] (.slice none 0 0) []) = true := by
      rw [node_8 rfl rfl]
      have : nameB [122, 122] = true := by kernel_rfl
      simp only [TermG.name, TermG.ty, fieldsB, TermG.n, TermG.args, this, hu]; rfl
    have n2 : argV (hasB (namesP V)) 8 [122, 122] 0 = hasB (namesP V) := by rw [argV, if_neg (by omega)]
    have n3 : argL (hasB (namesP L)) 8 [122, 122] = hasB (namesP L) := by rw [argL, if_neg (by omega)]
    have n4 : validT p.ds p.pf (argV (hasB (namesP V)) 8 [122, 122] 1) (hasB (namesP L)) zzV = true := by
      rw [argV, if_pos (by omega), zzV, validT, validA_nil, validC_nil, node_0 rfl rfl]
      simp only [TermG.name, fieldsB, TermG.n, TermG.args, TermG.ty, addP]; rfl
    rw [n1, n2, n3, hva, n4]; rfl
  have a' : Asked p V L (letT h u t) := ⟨a.hp, a.hV, a.hL, by
    rw [isB, e1, e2, e3]
    exact okB_iff.2 ⟨by omega, by omega, rfl⟩⟩
  have hz3 : ∀ E K, typeT p.ds p.fs (setE E [122, 122] u) K zzV = .ok u := by
    intro E K
    rw [zzV, typeT, typeA_nil, typeC]
    simp only [List.append_nil, ruleT, TermG.op, TermG.name, if_true, setE]
  have n6 : argE (envP V) 8 [122, 122] u 0 = envP V := by rw [argE, if_neg (by omega)]
  have n7 : argK (envP L) 8 [122, 122] u = envP L := by rw [argK, if_neg (by omega)]
  have n5 : argE (envP V) 8 [122, 122] u (0 + 1) = setE (envP V) [122, 122] u := by rw [argE, if_pos (by omega)]
  rw [typeN_of a', typeN_of a, letT, typeT, typeA_cons, typeA_cons, typeA_nil, n6, n7, n5, hz3]
  cases e : typeT p.ds p.fs (envP V) (envP L) t with
  | error q => simp
  | ok n =>
    simp only
    rw [typeC]
    simp only [List.append_nil, ruleT, TermG.op, TermG.ty]
    by_cases hnu : n = u
    · simp [hnu]
    · have : ¬ u = n := fun h => hnu h.symm
      simp [hnu, this]
end Go.Proofs.Ytppoacgeiooppaa
