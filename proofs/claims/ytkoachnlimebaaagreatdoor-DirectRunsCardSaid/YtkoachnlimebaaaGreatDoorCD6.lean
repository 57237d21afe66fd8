/- The reference of declarations: Codata, Has, Ends, Source, lists that are the same. -/
import Derived.Test.YtkoachnlimebaaaGreatDoorCD4
import Derived.Test.YtkoachnlimebaaaGreatDoorCAL17
set_option linter.unusedSimpArgs false
set_option linter.unusedVariables false
set_option maxRecDepth 20000
namespace Go.Proofs.YtkoachnlimebaaaGreatDoor
open Go.AL

def rcodataB (l : List DeclG) (t : Int) : Bool := decide (t ≥ 1) && decide (t ≤ l.length) && codataB l t
theorem rcodata_calls (hd : Value) (l : List DeclG) (t : Int) (hp : Hp) : ACalls Tryz.prog 189 [declsAV hd l, .v (.int .i64 t)] hp (fun r hp' => r = .v (.bool (rcodataB l t)) ∧ hp' = hp) := by
  refine acalls_fit (callable_of Tryz.func189 (by decide +kernel)) fun hfit => ?_
  have hl := (fit_decls hfit.1).len
  refine acalls_of Tryz.func189 rfl (by decide +kernel) (awp_sound (mu := []) _ _ _ ?_)
  simp only [go_sem, Nat.reduceEqDiff, Nat.reduceAdd, Nat.reduceSub, Nat.reduceLT, Nat.reduceBEq, Nat.reduceLeDiff, ↓reduceIte, Int.reduceToNat, Int.reduceLE, Int.reduceLT, Int.reduceEq, reduceCtorEq, declsAV]
  refine brK_mk (fun h1 => ?_) (fun h1 => ?_) <;> simp only [go_sem, Nat.reduceEqDiff, Nat.reduceAdd, Nat.reduceSub, Nat.reduceLT, Nat.reduceBEq, Nat.reduceLeDiff, ↓reduceIte, Int.reduceToNat, Int.reduceLE, Int.reduceLT, Int.reduceEq, reduceCtorEq, h1]
  · refine brK_mk (fun h2 => ?_) (fun h2 => ?_) <;> simp only [go_sem, Nat.reduceEqDiff, Nat.reduceAdd, Nat.reduceSub, Nat.reduceLT, Nat.reduceBEq, Nat.reduceLeDiff, ↓reduceIte, Int.reduceToNat, Int.reduceLE, Int.reduceLT, Int.reduceEq, reduceCtorEq, h2]
    · have h1' := h1; have h2' := h2; simp at h1' h2'
      obtain ⟨d, hdl⟩ := some_at l (t - 1).toNat (by omega)
      simp only [go_sem, Nat.reduceEqDiff, Nat.reduceAdd, Nat.reduceSub, Nat.reduceLT, Nat.reduceBEq, Nat.reduceLeDiff, ↓reduceIte, Int.reduceToNat, Int.reduceLE, Int.reduceLT, Int.reduceEq, reduceCtorEq, wrap_t (t := t) _ (by omega) h2' hl, map_at DeclG.av _ _ _ hdl, DeclG.av, DeclG.cs]
      refine ⟨by omega, ?_⟩
      exact ret_same ⟨by simp only [rcodataB, codataB, h1, h2, hdl, Bool.and_true, Bool.true_and, Bool.and_false, Bool.false_and, Bool.or_true, Bool.true_or, Bool.or_false, Bool.false_or, Bool.not_true, Bool.not_false]; rfl, rfl⟩
    · exact ret_same ⟨by simp only [rcodataB, h1, h2, Bool.and_true, Bool.true_and, Bool.and_false, Bool.false_and, Bool.or_true, Bool.true_or, Bool.or_false, Bool.false_or, Bool.not_true, Bool.not_false], rfl⟩
  · exact ret_same ⟨by simp only [rcodataB, h1, Bool.and_true, Bool.true_and, Bool.and_false, Bool.false_and, Bool.or_true, Bool.true_or, Bool.or_false, Bool.false_or, Bool.not_true, Bool.not_false], rfl⟩

def hasN (l : List DeclG) (t n : Int) : Bool := decide (t ≥ 1) && decide (t ≤ l.length) && decide (n ≥ 0) && decide (n < ((xtorsOf l t).length : Int))
theorem has_calls (hd : Value) (l : List DeclG) (t n : Int) (hp : Hp) : ACalls Tryz.prog 229 [declsAV hd l, .v (.int .i64 t), .v (.int .i64 n)] hp (fun r hp' => r = .v (.bool (hasN l t n)) ∧ hp' = hp) := by
  refine acalls_fit (callable_of Tryz.func229 (by decide +kernel)) fun hfit => ?_
  have hl := (fit_decls hfit.1).len
  refine acalls_of Tryz.func229 rfl (by decide +kernel) (awp_sound (mu := []) _ _ _ ?_)
  simp only [go_sem, Nat.reduceEqDiff, Nat.reduceAdd, Nat.reduceSub, Nat.reduceLT, Nat.reduceBEq, Nat.reduceLeDiff, ↓reduceIte, Int.reduceToNat, Int.reduceLE, Int.reduceLT, Int.reduceEq, reduceCtorEq, declsAV]
  refine brK_mk (fun h1 => ?_) (fun h1 => ?_) <;> simp only [go_sem, Nat.reduceEqDiff, Nat.reduceAdd, Nat.reduceSub, Nat.reduceLT, Nat.reduceBEq, Nat.reduceLeDiff, ↓reduceIte, Int.reduceToNat, Int.reduceLE, Int.reduceLT, Int.reduceEq, reduceCtorEq, h1]
  · refine brK_mk (fun h2 => ?_) (fun h2 => ?_) <;> simp only [go_sem, Nat.reduceEqDiff, Nat.reduceAdd, Nat.reduceSub, Nat.reduceLT, Nat.reduceBEq, Nat.reduceLeDiff, ↓reduceIte, Int.reduceToNat, Int.reduceLE, Int.reduceLT, Int.reduceEq, reduceCtorEq, h2]
    · refine brK_mk (fun h3 => ?_) (fun h3 => ?_) <;> simp only [go_sem, Nat.reduceEqDiff, Nat.reduceAdd, Nat.reduceSub, Nat.reduceLT, Nat.reduceBEq, Nat.reduceLeDiff, ↓reduceIte, Int.reduceToNat, Int.reduceLE, Int.reduceLT, Int.reduceEq, reduceCtorEq, h3]
      · have h1' := h1; have h2' := h2; simp at h1' h2'
        obtain ⟨d, hdl⟩ := some_at l (t - 1).toNat (by omega)
        simp only [go_sem, Nat.reduceEqDiff, Nat.reduceAdd, Nat.reduceSub, Nat.reduceLT, Nat.reduceBEq, Nat.reduceLeDiff, ↓reduceIte, Int.reduceToNat, Int.reduceLE, Int.reduceLT, Int.reduceEq, reduceCtorEq, wrap_t (t := t) _ (by omega) h2' hl, map_at DeclG.av _ _ _ hdl, DeclG.av, DeclG.cs]
        refine ⟨by omega, ?_⟩
        exact ret_same ⟨by simp only [hasN, xtorsOf, h1, h2, h3, hdl, Bool.and_true, Bool.true_and, Bool.and_false, Bool.false_and, Bool.or_true, Bool.true_or, Bool.or_false, Bool.false_or, Bool.not_true, Bool.not_false]; rfl, rfl⟩
      · exact ret_same ⟨by simp only [hasN, h1, h2, h3, Bool.and_true, Bool.true_and, Bool.and_false, Bool.false_and, Bool.or_true, Bool.true_or, Bool.or_false, Bool.false_or, Bool.not_true, Bool.not_false], rfl⟩
    · exact ret_same ⟨by simp only [hasN, h1, h2, Bool.and_true, Bool.true_and, Bool.and_false, Bool.false_and, Bool.or_true, Bool.true_or, Bool.or_false, Bool.false_or, Bool.not_true, Bool.not_false], rfl⟩
  · exact ret_same ⟨by simp only [hasN, h1, Bool.and_true, Bool.true_and, Bool.and_false, Bool.false_and, Bool.or_true, Bool.true_or, Bool.or_false, Bool.false_or, Bool.not_true, Bool.not_false], rfl⟩

def consN (args : List ArgG) : Nat := (args.filter ArgG.co).length
theorem consN_cons (a : ArgG) (r : List ArgG) : consN (a :: r) = (if a.co = true then 1 else 0) + consN r := by
  cases h : a.co <;> simp [consN, List.filter_cons, h]; omega
theorem consumers_calls (x : XtorG) (hp : Hp) : ACalls Tryz.prog 141 [x.av] hp (fun r hp' => r = .v (.int .i64 (consN x.args)) ∧ hp' = hp) := by
  refine acalls_fit (callable_of Tryz.func141 (by decide +kernel)) fun hfit => ?_
  have hl := fit_xtor hfit.1
  refine acalls_of Tryz.func141 rfl (by decide +kernel) (awp_sound (mu := []) _ _ _ ?_)
  simp only [go_sem, Nat.reduceEqDiff, Nat.reduceAdd, Nat.reduceSub, Nat.reduceLT, Nat.reduceBEq, Nat.reduceLeDiff, ↓reduceIte, Int.reduceToNat, Int.reduceLE, Int.reduceLT, Int.reduceEq, reduceCtorEq, XtorG.av, XtorG.cs]
  intro p
  refine aw_loopX 19 (fun g : Nat × Nat => [(3, .v (.int .i64 g.2)), (7, .lst 2 x.h (x.args.map ArgG.av)), (8, .v (.int .i64 x.args.length)), (9, .v (.int .i64 g.1))])
    (fun _ => hp) (fun g => g.1 ≤ x.args.length ∧ g.2 ≤ g.1 ∧ g.2 + consN (x.args.drop g.1) = consN x.args) (fun g => x.args.length - g.1) (0, 0)
    ⟨Nat.zero_le _, Nat.le_refl _, by simp⟩ (le_mkSl rfl (Hp.le_refl _) (by simp [go_sem])) ?_
  rintro ⟨k, n⟩ ⟨hk, hn, hall⟩
  simp only at hk hn hall
  refine awp_sound (mu := []) _ _ _ ?_
  simp only [go_sem, Nat.reduceEqDiff, Nat.reduceAdd, Nat.reduceSub, Nat.reduceLT, Nat.reduceBEq, Nat.reduceLeDiff, ↓reduceIte, Int.reduceToNat, Int.reduceLE, Int.reduceLT, Int.reduceEq, reduceCtorEq]
  refine brK_mk (fun h => ?_) (fun h => ?_)
  · have hk' : k < x.args.length := by simpa using h
    obtain ⟨a, hg⟩ := some_at x.args k hk'
    rw [drop_at _ k _ hg, consN_cons] at hall
    simp only [go_sem, Nat.reduceEqDiff, Nat.reduceAdd, Nat.reduceSub, Nat.reduceLT, Nat.reduceBEq, Nat.reduceLeDiff, ↓reduceIte, Int.reduceToNat, Int.reduceLE, Int.reduceLT, Int.reduceEq, reduceCtorEq, h, map_at ArgG.av _ _ _ hg, ArgG.av, ArgG.cs]
    intro v hv
    have hds := fun T cs => Hp.del_set _ _ T cs hv.1
    refine brK_mk (fun h2 => ?_) (fun h2 => ?_) <;> simp only [go_sem, Nat.reduceEqDiff, Nat.reduceAdd, Nat.reduceSub, Nat.reduceLT, Nat.reduceBEq, Nat.reduceLeDiff, ↓reduceIte, Int.reduceToNat, Int.reduceLE, Int.reduceLT, Int.reduceEq, reduceCtorEq, h2, hds]
    · simp only [h2, if_true] at hall
      refine ⟨(k + 1, n + 1), by simp only; omega, ⟨by simp only; omega, by simp only; omega, by simp only; omega⟩, le_mkSl rfl (Hp.le_refl _) ?_⟩
      simp [go_sem, wrap_up k _ hk' hl, wrap_up n x.args.length (by omega) hl]
    · simp only [h2, Bool.false_eq_true, if_false] at hall
      refine ⟨(k + 1, n), by simp only; omega, ⟨by simp only; omega, by simp only; omega, by simp only; omega⟩, le_mkSl rfl (Hp.le_refl _) ?_⟩
      simp [go_sem, wrap_up k _ hk' hl]
  · simp only [go_sem, Nat.reduceEqDiff, Nat.reduceAdd, Nat.reduceSub, Nat.reduceLT, Nat.reduceBEq, Nat.reduceLeDiff, ↓reduceIte, Int.reduceToNat, Int.reduceLE, Int.reduceLT, Int.reduceEq, reduceCtorEq, h]
    have e : x.args.length ≤ k := by simp at h; omega
    rw [List.drop_of_length_le e] at hall
    exact ret_same ⟨by rw [← hall]; simp [consN], rfl⟩

def endsB (args : List ArgG) : Bool := decide ((consN args : Int) = 1) && (args.getLast?.map ArgG.co).getD false
theorem ends_calls (x : XtorG) (hp : Hp) : ACalls Tryz.prog 140 [x.av] hp (fun r hp' => r = .v (.bool (endsB x.args)) ∧ hp' = hp) := by
  refine acalls_fit (callable_of Tryz.func140 (by decide +kernel)) fun hfit => ?_
  have hl := fit_xtor hfit.1
  refine acalls_of Tryz.func140 rfl (by decide +kernel) (awp_sound (mu := []) _ _ _ ?_)
  simp only [go_sem, Nat.reduceEqDiff, Nat.reduceAdd, Nat.reduceSub, Nat.reduceLT, Nat.reduceBEq, Nat.reduceLeDiff, ↓reduceIte, Int.reduceToNat, Int.reduceLE, Int.reduceLT, Int.reduceEq, reduceCtorEq, XtorG.av, XtorG.cs]
  intro p
  refine callX_by (consumers_calls x _) ?_
  rintro r hp' ⟨rfl, rfl⟩
  simp only [go_sem, Nat.reduceEqDiff, Nat.reduceAdd, Nat.reduceSub, Nat.reduceLT, Nat.reduceBEq, Nat.reduceLeDiff, ↓reduceIte, Int.reduceToNat, Int.reduceLE, Int.reduceLT, Int.reduceEq, reduceCtorEq]
  refine brK_mk (fun h => ?_) (fun h => ?_) <;> simp only [go_sem, Nat.reduceEqDiff, Nat.reduceAdd, Nat.reduceSub, Nat.reduceLT, Nat.reduceBEq, Nat.reduceLeDiff, ↓reduceIte, Int.reduceToNat, Int.reduceLE, Int.reduceLT, Int.reduceEq, reduceCtorEq, h]
  · have hpos : 0 < x.args.length := by
      rcases Nat.eq_zero_or_pos x.args.length with h0 | h0
      · have : x.args = [] := List.eq_nil_of_length_eq_zero h0
        rw [this] at h; simp [consN] at h
      · exact h0
    obtain ⟨a, ha⟩ := some_at x.args (x.args.length - 1) (by omega)
    have hi : ((x.args.length : Int) - 1).toNat = x.args.length - 1 := by omega
    simp only [go_sem, Nat.reduceEqDiff, Nat.reduceAdd, Nat.reduceSub, Nat.reduceLT, Nat.reduceBEq, Nat.reduceLeDiff, ↓reduceIte, Int.reduceToNat, Int.reduceLE, Int.reduceLT, Int.reduceEq, reduceCtorEq, wrap_dn _ hl, hi, map_at ArgG.av _ _ _ ha, ArgG.av, ArgG.cs]
    refine ⟨by omega, ?_⟩
    exact ret_same ⟨by simp only [endsB, h, List.getLast?_eq_getElem?, ha, Bool.and_true, Bool.true_and, Bool.and_false, Bool.false_and, Bool.or_true, Bool.true_or, Bool.or_false, Bool.false_or, Bool.not_true, Bool.not_false]; rfl, rfl⟩
  · exact ret_same ⟨by simp only [endsB, h, Bool.and_true, Bool.true_and, Bool.and_false, Bool.false_and, Bool.or_true, Bool.true_or, Bool.or_false, Bool.false_or, Bool.not_true, Bool.not_false], rfl⟩

def rsourceX (co : Bool) (x : XtorG) : Bool := !((co && !endsB x.args) || (!co && decide ((consN x.args : Int) > 0)))
def rsourceB (l : List DeclG) : Bool := l.all fun d => d.xtors.all (rsourceX d.codata)
theorem rsource_calls (hd : Value) (l : List DeclG) (hp : Hp) : ACalls Tryz.prog 86 [declsAV hd l] hp (fun r hp' => r = .v (.bool (rsourceB l)) ∧ hp' = hp) := by
  refine acalls_fit (callable_of Tryz.func86 (by decide +kernel)) fun hfit => ?_
  have hl := fit_decls hfit.1
  refine acalls_of Tryz.func86 rfl (by decide +kernel) (awp_sound (mu := []) _ _ _ ?_)
  simp only [go_sem, Nat.reduceEqDiff, Nat.reduceAdd, Nat.reduceSub, Nat.reduceLT, Nat.reduceBEq, Nat.reduceLeDiff, ↓reduceIte, Int.reduceToNat, Int.reduceLE, Int.reduceLT, Int.reduceEq, reduceCtorEq, declsAV]
  refine aw_loopX 39 (fun k : Nat => [(7, .lst 3 hd (l.map DeclG.av)), (8, .v (.int .i64 l.length)), (9, .v (.int .i64 k))])
    (fun _ => hp) (fun k => k ≤ l.length ∧ (l.drop k).all (fun d => d.xtors.all (rsourceX d.codata)) = rsourceB l) (fun k => l.length - k) 0
    ⟨Nat.zero_le _, rfl⟩ (le_mkSl rfl (Hp.le_refl _) (by simp [go_sem])) ?_
  rintro k ⟨hk, hall⟩
  refine awp_sound (mu := []) _ _ _ ?_
  simp only [go_sem, Nat.reduceEqDiff, Nat.reduceAdd, Nat.reduceSub, Nat.reduceLT, Nat.reduceBEq, Nat.reduceLeDiff, ↓reduceIte, Int.reduceToNat, Int.reduceLE, Int.reduceLT, Int.reduceEq, reduceCtorEq]
  refine brK_mk (fun h => ?_) (fun h => ?_)
  · have hk' : k < l.length := by simpa using h
    obtain ⟨d, hgd⟩ := some_at l k hk'
    have hmem := List.mem_of_getElem? hgd
    have hxl := hl.xt d hmem
    rw [drop_at l k d hgd, List.all_cons] at hall
    simp only [go_sem, Nat.reduceEqDiff, Nat.reduceAdd, Nat.reduceSub, Nat.reduceLT, Nat.reduceBEq, Nat.reduceLeDiff, ↓reduceIte, Int.reduceToNat, Int.reduceLE, Int.reduceLT, Int.reduceEq, reduceCtorEq, h, map_at DeclG.av _ _ _ hgd, DeclG.av, DeclG.cs]
    intro v hv
    have hds := fun T cs => Hp.del_set _ _ T cs hv.1
    simp only [hds]
    have hcd : d.cs = [.v (.string (bs d.name)), .v (.bool d.codata), .lst 2 d.h (d.xtors.map XtorG.av)] := rfl
    generalize hsx : rsourceX d.codata = sx at hall
    refine aw_loopX 39 (fun j : Nat => [(7, .lst 3 hd (l.map DeclG.av)), (8, .v (.int .i64 l.length)), (9, .v (.int .i64 k)), (4, .ref (.pointer (some ⟨v, 0, none⟩)) d.cs), (14, .lst 2 d.h (d.xtors.map XtorG.av)), (15, .v (.int .i64 d.xtors.length)), (16, .v (.int .i64 j))])
      (fun _ => hp) (fun j => j ≤ d.xtors.length ∧ (d.xtors.drop j).all sx = d.xtors.all sx) (fun j => d.xtors.length - j) 0
      ⟨Nat.zero_le _, rfl⟩ (le_mkSl rfl (by simp only [go_sem, hds]; exact Hp.le_refl _) (by simp [go_sem, hcd])) ?_
    rintro j ⟨hj, hxs⟩
    refine awp_sound (mu := []) _ _ _ ?_
    simp only [go_sem, Nat.reduceEqDiff, Nat.reduceAdd, Nat.reduceSub, Nat.reduceLT, Nat.reduceBEq, Nat.reduceLeDiff, ↓reduceIte, Int.reduceToNat, Int.reduceLE, Int.reduceLT, Int.reduceEq, reduceCtorEq]
    refine brK_mk (fun h2 => ?_) (fun h2 => ?_)
    · have hj' : j < d.xtors.length := by simpa using h2
      obtain ⟨x, hx⟩ := some_at d.xtors j hj'
      rw [drop_at _ j _ hx, List.all_cons] at hxs
      simp only [go_sem, Nat.reduceEqDiff, Nat.reduceAdd, Nat.reduceSub, Nat.reduceLT, Nat.reduceBEq, Nat.reduceLeDiff, ↓reduceIte, Int.reduceToNat, Int.reduceLE, Int.reduceLT, Int.reduceEq, reduceCtorEq, h2, map_at XtorG.av _ _ _ hx, XtorG.av, XtorG.cs, DeclG.cs]
      intro u hu
      have hdu := fun T cs => Hp.del_set _ _ T cs hu.1
      have hsf : sx x = !((d.codata && !endsB x.args) || (!d.codata && decide ((consN x.args : Int) > 0))) := by rw [← hsx]; rfl
      refine brK_mk (fun h3 => ?_) (fun h3 => ?_) <;> simp only [go_sem, Nat.reduceEqDiff, Nat.reduceAdd, Nat.reduceSub, Nat.reduceLT, Nat.reduceBEq, Nat.reduceLeDiff, ↓reduceIte, Int.reduceToNat, Int.reduceLE, Int.reduceLT, Int.reduceEq, reduceCtorEq, h3, hdu]
      · refine callX_by (ends_calls x _) ?_
        rintro r hp2 ⟨rfl, rfl⟩
        simp only [go_sem, Nat.reduceEqDiff, Nat.reduceAdd, Nat.reduceSub, Nat.reduceLT, Nat.reduceBEq, Nat.reduceLeDiff, ↓reduceIte, Int.reduceToNat, Int.reduceLE, Int.reduceLT, Int.reduceEq, reduceCtorEq, h3, hdu]
        refine brK_mk (fun h4 => ?_) (fun h4 => ?_) <;> simp only [go_sem, Nat.reduceEqDiff, Nat.reduceAdd, Nat.reduceSub, Nat.reduceLT, Nat.reduceBEq, Nat.reduceLeDiff, ↓reduceIte, Int.reduceToNat, Int.reduceLE, Int.reduceLT, Int.reduceEq, reduceCtorEq, h3, h4, hdu]
        · simp only [h3, h4, Bool.and_true, Bool.true_and, Bool.and_false, Bool.false_and, Bool.or_true, Bool.true_or, Bool.or_false, Bool.false_or, Bool.not_true, Bool.not_false] at hsf
          refine ⟨j + 1, by omega, ⟨by omega, by rw [← hxs, hsf, Bool.true_and]⟩, le_mkSl rfl (Hp.le_refl _) ?_⟩
          simp [go_sem, wrap_up j _ hj' hxl, hcd, h3]
        · simp only [h3, h4, Bool.and_true, Bool.true_and, Bool.and_false, Bool.false_and, Bool.or_true, Bool.true_or, Bool.or_false, Bool.false_or, Bool.not_true, Bool.not_false] at hsf
          exact ret_same ⟨by rw [← hall, ← hxs, hsf]; rfl, rfl⟩
      · refine callX_by (consumers_calls x _) ?_
        rintro r hp2 ⟨rfl, rfl⟩
        simp only [go_sem, Nat.reduceEqDiff, Nat.reduceAdd, Nat.reduceSub, Nat.reduceLT, Nat.reduceBEq, Nat.reduceLeDiff, ↓reduceIte, Int.reduceToNat, Int.reduceLE, Int.reduceLT, Int.reduceEq, reduceCtorEq, h3, hdu]
        refine brK_mk (fun h4 => ?_) (fun h4 => ?_) <;> simp only [go_sem, Nat.reduceEqDiff, Nat.reduceAdd, Nat.reduceSub, Nat.reduceLT, Nat.reduceBEq, Nat.reduceLeDiff, ↓reduceIte, Int.reduceToNat, Int.reduceLE, Int.reduceLT, Int.reduceEq, reduceCtorEq, h3, h4, hdu]
        · simp only [h3, h4, Bool.and_true, Bool.true_and, Bool.and_false, Bool.false_and, Bool.or_true, Bool.true_or, Bool.or_false, Bool.false_or, Bool.not_true, Bool.not_false] at hsf
          exact ret_same ⟨by rw [← hall, ← hxs, hsf]; rfl, rfl⟩
        · simp only [h3, h4, Bool.and_true, Bool.true_and, Bool.and_false, Bool.false_and, Bool.or_true, Bool.true_or, Bool.or_false, Bool.false_or, Bool.not_true, Bool.not_false] at hsf
          refine ⟨j + 1, by omega, ⟨by omega, by rw [← hxs, hsf, Bool.true_and]⟩, le_mkSl rfl (Hp.le_refl _) ?_⟩
          simp [go_sem, wrap_up j _ hj' hxl, hcd, h3]
    · simp only [go_sem, Nat.reduceEqDiff, Nat.reduceAdd, Nat.reduceSub, Nat.reduceLT, Nat.reduceBEq, Nat.reduceLeDiff, ↓reduceIte, Int.reduceToNat, Int.reduceLE, Int.reduceLT, Int.reduceEq, reduceCtorEq, h2]
      have e : d.xtors.length ≤ j := by simp at h2; omega
      rw [List.drop_of_length_le e, List.all_nil] at hxs
      rw [← hxs, Bool.true_and] at hall
      refine ⟨k + 1, by omega, ⟨by omega, hall⟩, le_mkSl rfl (Hp.le_refl _) ?_⟩
      simp [go_sem, wrap_up k _ hk' hl.len]
  · simp only [go_sem, Nat.reduceEqDiff, Nat.reduceAdd, Nat.reduceSub, Nat.reduceLT, Nat.reduceBEq, Nat.reduceLeDiff, ↓reduceIte, Int.reduceToNat, Int.reduceLE, Int.reduceLT, Int.reduceEq, reduceCtorEq, h]
    have e : l.length ≤ k := by simp at h; omega
    rw [List.drop_of_length_le e] at hall
    exact ret_same ⟨by rw [← hall]; rfl, rfl⟩

/-! ### Lists that are the same -/
end Go.Proofs.YtkoachnlimebaaaGreatDoor
/- chiasmusref01.Is. -/
set_option linter.unusedSimpArgs false
set_option linter.unusedVariables false
set_option maxRecDepth 20000
namespace Go.Proofs.YtkoachnlimebaaaGreatDoor
open Go.AL

def strsAV (h : Value) (l : List (List UInt8)) : AV := .lst 1 h (l.map fun s => .v (.string (bs s)))
def rxtorB (n : Nat) (seen : List (List UInt8)) (x : XtorG) : Bool := rxtorNameB x.name && !decide ((x.args.length : Int) > 6) && !hasB seen x.name && x.args.all (argB n)
def rfitsAll (n : Nat) : List (List UInt8) → List XtorG → Option (List (List UInt8))
  | seen, [] => some seen
  | seen, x :: r => if rxtorB n seen x = true then rfitsAll n (seen ++ [x.name]) r else none
def rdeclB (names : List (List UInt8)) (d : DeclG) : Bool := rnameB d.name && !decide ((d.xtors.length : Int) < 1) && !decide ((d.xtors.length : Int) > 6) && !(names.any fun e => decide (e = d.name))
def risFrom (n : Nat) : List (List UInt8) → List (List UInt8) → List DeclG → Bool
  | _, _, [] => true
  | names, seen, d :: r => rdeclB names d && match rfitsAll n seen d.xtors with
    | some seen' => risFrom n (names ++ [d.name]) seen' r
    | none => false
def risB (l : List DeclG) : Bool := !decide ((l.length : Int) > 8) && risFrom l.length [] [] l

theorem ris_calls (hd : Value) (l : List DeclG) (hp : Hp) : ACalls Tryz.prog 85 [declsAV hd l] hp (fun r hp' => r = .v (.bool (risB l)) ∧ hp' = hp) := by
  refine acalls_fit (callable_of Tryz.func85 (by decide +kernel)) fun hfit => ?_
  have hl := fit_decls hfit.1
  refine acalls_of Tryz.func85 rfl (by decide +kernel) (awp_sound (mu := []) _ _ _ ?_)
  simp only [go_sem, Nat.reduceEqDiff, Nat.reduceAdd, Nat.reduceSub, Nat.reduceLT, Nat.reduceBEq, Nat.reduceLeDiff, ↓reduceIte, Int.reduceToNat, Int.reduceLE, Int.reduceLT, Int.reduceEq, reduceCtorEq, declsAV]
  refine brK_mk (fun h1 => ?_) (fun h1 => ?_) <;> simp only [go_sem, Nat.reduceEqDiff, Nat.reduceAdd, Nat.reduceSub, Nat.reduceLT, Nat.reduceBEq, Nat.reduceLeDiff, ↓reduceIte, Int.reduceToNat, Int.reduceLE, Int.reduceLT, Int.reduceEq, reduceCtorEq, h1]
  · exact ret_same ⟨by simp only [risB, h1, Bool.and_true, Bool.true_and, Bool.and_false, Bool.false_and, Bool.or_true, Bool.true_or, Bool.or_false, Bool.false_or, Bool.not_true, Bool.not_false], rfl⟩
  · have hvb : risB l = risFrom l.length [] [] l := by simp only [risB, h1, Bool.and_true, Bool.true_and, Bool.and_false, Bool.false_and, Bool.or_true, Bool.true_or, Bool.or_false, Bool.false_or, Bool.not_true, Bool.not_false]
    have hl8 : l.length ≤ 8 := by simp at h1; omega
    refine addNil_by 9 1 ?_
    refine aw_loopX 107 (fun g : Nat × List (List UInt8) × Value => [(0, .lst 3 hd (l.map DeclG.av)), (17, .lst 3 hd (l.map DeclG.av)), (18, .v (.int .i64 l.length)), (19, .v (.int .i64 g.1)), (3, strsAV g.2.2 g.2.1)])
      (fun g => hp.setSp ((9, 1, g.2.2) :: hp.sp)) (fun g => g.1 ≤ l.length ∧ g.2.1.length ≤ 6 * g.1 ∧ risFrom l.length ((l.take g.1).map DeclG.name) g.2.1 (l.drop g.1) = risFrom l.length [] [] l) (fun g => l.length - g.1) (0, [], .slice none 0 0)
      ⟨Nat.zero_le _, Nat.le_refl _, rfl⟩ (le_of_cast rfl (Hp.le_refl _) (by simp [go_sem, Cast.refl]; exact Cast.nil 1)) ?_
    rintro ⟨i, seen, h3⟩ ⟨hi, hsl, hall⟩
    simp only at hi hsl hall
    refine awp_sound (mu := []) _ _ _ ?_
    simp only [go_sem, Nat.reduceEqDiff, Nat.reduceAdd, Nat.reduceSub, Nat.reduceLT, Nat.reduceBEq, Nat.reduceLeDiff, ↓reduceIte, Int.reduceToNat, Int.reduceLE, Int.reduceLT, Int.reduceEq, reduceCtorEq]
    refine brK_mk (fun h => ?_) (fun h => ?_) <;> simp only [go_sem, Nat.reduceEqDiff, Nat.reduceAdd, Nat.reduceSub, Nat.reduceLT, Nat.reduceBEq, Nat.reduceLeDiff, ↓reduceIte, Int.reduceToNat, Int.reduceLE, Int.reduceLT, Int.reduceEq, reduceCtorEq, h]
    · have hi' : i < l.length := by simpa using h
      obtain ⟨d, hgd⟩ := some_at l i hi'
      have hmem := List.mem_of_getElem? hgd
      have hxl := hl.xt d hmem
      rw [drop_at l i d hgd] at hall
      simp only [go_sem, Nat.reduceEqDiff, Nat.reduceAdd, Nat.reduceSub, Nat.reduceLT, Nat.reduceBEq, Nat.reduceLeDiff, ↓reduceIte, Int.reduceToNat, Int.reduceLE, Int.reduceLT, Int.reduceEq, reduceCtorEq, h, map_at DeclG.av _ _ _ hgd, DeclG.av, DeclG.cs]
      intro v hv
      have hds := fun T cs => Hp.del_set _ _ T cs hv.1
      simp only [hds]
      refine callX_by (rname_calls _ _) ?_
      rintro r hp' ⟨rfl, rfl⟩
      simp only [go_sem, Nat.reduceEqDiff, Nat.reduceAdd, Nat.reduceSub, Nat.reduceLT, Nat.reduceBEq, Nat.reduceLeDiff, ↓reduceIte, Int.reduceToNat, Int.reduceLE, Int.reduceLT, Int.reduceEq, reduceCtorEq]
      have bad : rdeclB ((l.take i).map DeclG.name) d = false → risB l = false := fun h => by rw [hvb, ← hall]; simp only [risFrom, h, Bool.and_true, Bool.true_and, Bool.and_false, Bool.false_and, Bool.or_true, Bool.true_or, Bool.or_false, Bool.false_or, Bool.not_true, Bool.not_false]
      have hle : ∀ x, hp.le (hp.setSp (x :: hp.sp)) := Hp.le_addSp hp
      refine brK_mk (fun h2 => ?_) (fun h2 => ?_) <;> simp only [go_sem, Nat.reduceEqDiff, Nat.reduceAdd, Nat.reduceSub, Nat.reduceLT, Nat.reduceBEq, Nat.reduceLeDiff, ↓reduceIte, Int.reduceToNat, Int.reduceLE, Int.reduceLT, Int.reduceEq, reduceCtorEq, h2]
      · refine brK_mk (fun h4 => ?_) (fun h4 => ?_) <;> simp only [go_sem, Nat.reduceEqDiff, Nat.reduceAdd, Nat.reduceSub, Nat.reduceLT, Nat.reduceBEq, Nat.reduceLeDiff, ↓reduceIte, Int.reduceToNat, Int.reduceLE, Int.reduceLT, Int.reduceEq, reduceCtorEq, h4]
        · exact ret_le (hle _) ⟨by rw [bad (by simp only [rdeclB, h2, h4, Bool.and_true, Bool.true_and, Bool.and_false, Bool.false_and, Bool.or_true, Bool.true_or, Bool.or_false, Bool.false_or, Bool.not_true, Bool.not_false])], rfl⟩
        · refine brK_mk (fun h5 => ?_) (fun h5 => ?_) <;> simp only [go_sem, Nat.reduceEqDiff, Nat.reduceAdd, Nat.reduceSub, Nat.reduceLT, Nat.reduceBEq, Nat.reduceLeDiff, ↓reduceIte, Int.reduceToNat, Int.reduceLE, Int.reduceLT, Int.reduceEq, reduceCtorEq, h5]
          · exact ret_le (hle _) ⟨by rw [bad (by simp only [rdeclB, h2, h4, h5, Bool.and_true, Bool.true_and, Bool.and_false, Bool.false_and, Bool.or_true, Bool.true_or, Bool.or_false, Bool.false_or, Bool.not_true, Bool.not_false])], rfl⟩
          · refine ⟨by omega, fun a' c' => ?_⟩
            have hcd : d.cs = [.v (.string (bs d.name)), .v (.bool d.codata), .lst 2 d.h (d.xtors.map XtorG.av)] := rfl
            have hti : (l.take i).length = i := by simp; omega
            refine aw_loopX 107 (fun k : Nat => [(0, .lst 3 hd (l.map DeclG.av)), (17, .lst 3 hd (l.map DeclG.av)), (18, .v (.int .i64 l.length)), (19, .v (.int .i64 i)), (5, .ref (.pointer (some ⟨v, 0, none⟩)) d.cs), (3, strsAV h3 seen), (42, .lst 3 (.slice a' i c') ((l.take i).map DeclG.av)), (43, .v (.int .i64 i)), (44, .v (.int .i64 k))])
              (fun _ => hp.setSp ((9, 1, h3) :: hp.sp)) (fun k => k ≤ i ∧ (((l.take i).map DeclG.name).drop k).any (fun e => decide (e = d.name)) = ((l.take i).map DeclG.name).any (fun e => decide (e = d.name))) (fun k => i - k) 0
              ⟨Nat.zero_le _, rfl⟩ (le_mkSl rfl (by simp only [go_sem, hds]; exact Hp.le_refl _) (by simp [go_sem, hcd, List.map_take]; omega)) ?_
            rintro k ⟨hk, hns⟩
            refine awp_sound (mu := []) _ _ _ ?_
            simp only [go_sem, Nat.reduceEqDiff, Nat.reduceAdd, Nat.reduceSub, Nat.reduceLT, Nat.reduceBEq, Nat.reduceLeDiff, ↓reduceIte, Int.reduceToNat, Int.reduceLE, Int.reduceLT, Int.reduceEq, reduceCtorEq]
            refine brK_mk (fun h6 => ?_) (fun h6 => ?_)
            · have hk' : k < i := by simpa using h6
              obtain ⟨e, he⟩ := some_at (l.take i) k (by omega)
              rw [drop_at _ k _ (map_at DeclG.name _ _ _ he), List.any_cons] at hns
              simp only [go_sem, Nat.reduceEqDiff, Nat.reduceAdd, Nat.reduceSub, Nat.reduceLT, Nat.reduceBEq, Nat.reduceLeDiff, ↓reduceIte, Int.reduceToNat, Int.reduceLE, Int.reduceLT, Int.reduceEq, reduceCtorEq, h6, map_at DeclG.av _ _ _ he, DeclG.av, DeclG.cs]
              intro q hq
              have hdq := fun T cs => Hp.del_set _ _ T cs hq.1
              refine brK_mk (fun h7 => ?_) (fun h7 => ?_) <;> simp only [go_sem, Nat.reduceEqDiff, Nat.reduceAdd, Nat.reduceSub, Nat.reduceLT, Nat.reduceBEq, Nat.reduceLeDiff, ↓reduceIte, Int.reduceToNat, Int.reduceLE, Int.reduceLT, Int.reduceEq, reduceCtorEq, h7, hdq]
              · simp only [h7, Bool.and_true, Bool.true_and, Bool.and_false, Bool.false_and, Bool.or_true, Bool.true_or, Bool.or_false, Bool.false_or, Bool.not_true, Bool.not_false] at hns
                exact ret_le (hle _) ⟨by rw [bad (by simp only [rdeclB, ← hns, Bool.and_true, Bool.true_and, Bool.and_false, Bool.false_and, Bool.or_true, Bool.true_or, Bool.or_false, Bool.false_or, Bool.not_true, Bool.not_false])], rfl⟩
              · simp only [h7, Bool.and_true, Bool.true_and, Bool.and_false, Bool.false_and, Bool.or_true, Bool.true_or, Bool.or_false, Bool.false_or, Bool.not_true, Bool.not_false] at hns
                refine ⟨k + 1, by omega, ⟨by omega, hns⟩, le_mkSl rfl (Hp.le_refl _) ?_⟩
                simp [go_sem, wrap_up k i hk' (by simp only [maxLen]; omega), hcd]
            · have e : ((l.take i).map DeclG.name).length ≤ k := by simp at h6; simp; omega
              rw [List.drop_of_length_le e, List.any_nil] at hns
              have hdb : rdeclB ((l.take i).map DeclG.name) d = true := by simp only [rdeclB, h2, h4, h5, ← hns, Bool.and_true, Bool.true_and, Bool.and_false, Bool.false_and, Bool.or_true, Bool.true_or, Bool.or_false, Bool.false_or, Bool.not_true, Bool.not_false]
              simp only [risFrom, hdb, Bool.true_and] at hall
              simp only [go_sem, Nat.reduceEqDiff, Nat.reduceAdd, Nat.reduceSub, Nat.reduceLT, Nat.reduceBEq, Nat.reduceLeDiff, ↓reduceIte, Int.reduceToNat, Int.reduceLE, Int.reduceLT, Int.reduceEq, reduceCtorEq, h6, DeclG.cs]
              refine aw_loopX 107 (fun g : Nat × List (List UInt8) × Value => [(0, .lst 3 hd (l.map DeclG.av)), (17, .lst 3 hd (l.map DeclG.av)), (18, .v (.int .i64 l.length)), (19, .v (.int .i64 i)), (5, .ref (.pointer (some ⟨v, 0, none⟩)) d.cs), (3, strsAV g.2.2 g.2.1), (55, .lst 2 d.h (d.xtors.map XtorG.av)), (56, .v (.int .i64 d.xtors.length)), (57, .v (.int .i64 g.1))])
                (fun g => hp.setSp ((9, 1, g.2.2) :: hp.sp)) (fun g => g.1 ≤ d.xtors.length ∧ g.2.1.length ≤ 6 * i + g.1 ∧ rfitsAll l.length g.2.1 (d.xtors.drop g.1) = rfitsAll l.length seen d.xtors) (fun g => d.xtors.length - g.1) (0, seen, h3)
                ⟨Nat.zero_le _, hsl, rfl⟩ (le_mkSl rfl (Hp.le_refl _) (by simp [go_sem, hcd])) ?_
              rintro ⟨j, sn, h8⟩ ⟨hj, hsn, hfa⟩
              simp only at hj hsn hfa
              refine awp_sound (mu := []) _ _ _ ?_
              simp only [go_sem, Nat.reduceEqDiff, Nat.reduceAdd, Nat.reduceSub, Nat.reduceLT, Nat.reduceBEq, Nat.reduceLeDiff, ↓reduceIte, Int.reduceToNat, Int.reduceLE, Int.reduceLT, Int.reduceEq, reduceCtorEq]
              refine brK_mk (fun h9 => ?_) (fun h9 => ?_)
              · have hj' : j < d.xtors.length := by simpa using h9
                obtain ⟨x, hx⟩ := some_at d.xtors j hj'
                have hal := hl.ar d hmem x (List.mem_of_getElem? hx)
                rw [drop_at _ j _ hx] at hfa
                have badx : rxtorB l.length sn x = false → risB l = false := fun h => by
                  simp only [rfitsAll, h, Bool.false_eq_true, if_false] at hfa
                  rw [hvb, ← hall, ← hfa]
                simp only [go_sem, Nat.reduceEqDiff, Nat.reduceAdd, Nat.reduceSub, Nat.reduceLT, Nat.reduceBEq, Nat.reduceLeDiff, ↓reduceIte, Int.reduceToNat, Int.reduceLE, Int.reduceLT, Int.reduceEq, reduceCtorEq, h9, map_at XtorG.av _ _ _ hx, XtorG.av, XtorG.cs]
                intro u hu
                have hdu := fun T cs => Hp.del_set _ _ T cs hu.1
                refine callX_by (rxtorName_calls _ _) ?_
                rintro r hp' ⟨rfl, rfl⟩
                simp only [go_sem, Nat.reduceEqDiff, Nat.reduceAdd, Nat.reduceSub, Nat.reduceLT, Nat.reduceBEq, Nat.reduceLeDiff, ↓reduceIte, Int.reduceToNat, Int.reduceLE, Int.reduceLT, Int.reduceEq, reduceCtorEq, hdu]
                refine brK_mk (fun x1 => ?_) (fun x1 => ?_) <;> simp only [go_sem, Nat.reduceEqDiff, Nat.reduceAdd, Nat.reduceSub, Nat.reduceLT, Nat.reduceBEq, Nat.reduceLeDiff, ↓reduceIte, Int.reduceToNat, Int.reduceLE, Int.reduceLT, Int.reduceEq, reduceCtorEq, x1, hdu]
                · refine brK_mk (fun x2 => ?_) (fun x2 => ?_) <;> simp only [go_sem, Nat.reduceEqDiff, Nat.reduceAdd, Nat.reduceSub, Nat.reduceLT, Nat.reduceBEq, Nat.reduceLeDiff, ↓reduceIte, Int.reduceToNat, Int.reduceLE, Int.reduceLT, Int.reduceEq, reduceCtorEq, x2, hdu]
                  · exact ret_le (hle _) ⟨by rw [badx (by simp only [rxtorB, x1, x2, Bool.and_true, Bool.true_and, Bool.and_false, Bool.false_and, Bool.or_true, Bool.true_or, Bool.or_false, Bool.false_or, Bool.not_true, Bool.not_false])], rfl⟩
                  · have hxc : x.cs = [.v (.string (bs x.name)), .lst 2 x.h (x.args.map ArgG.av)] := rfl
                    simp only [go_sem, Nat.reduceEqDiff, Nat.reduceAdd, Nat.reduceSub, Nat.reduceLT, Nat.reduceBEq, Nat.reduceLeDiff, ↓reduceIte, Int.reduceToNat, Int.reduceLE, Int.reduceLT, Int.reduceEq, reduceCtorEq, strsAV, hdu]
                    refine aw_loopX 107 (fun m : Nat => [(0, .lst 3 hd (l.map DeclG.av)), (17, .lst 3 hd (l.map DeclG.av)), (18, .v (.int .i64 l.length)), (19, .v (.int .i64 i)), (5, .ref (.pointer (some ⟨v, 0, none⟩)) d.cs), (55, .lst 2 d.h (d.xtors.map XtorG.av)), (56, .v (.int .i64 d.xtors.length)), (57, .v (.int .i64 j)), (9, .ref (.pointer (some ⟨u, 0, none⟩)) x.cs), (3, strsAV h8 sn), (71, strsAV h8 sn), (72, .v (.int .i64 sn.length)), (73, .v (.int .i64 m))])
                      (fun _ => hp.setSp ((9, 1, h8) :: hp.sp)) (fun m => m ≤ sn.length ∧ (sn.drop m).any (fun t => decide (x.name = t)) = hasB sn x.name) (fun m => sn.length - m) 0
                      ⟨Nat.zero_le _, rfl⟩ (le_mkSl rfl (by simp only [go_sem, hdu]; exact Hp.le_refl _) (by simp [go_sem, hcd, hxc, strsAV])) ?_
                    rintro m ⟨hm, hss⟩
                    refine awp_sound (mu := []) _ _ _ ?_
                    simp only [go_sem, Nat.reduceEqDiff, Nat.reduceAdd, Nat.reduceSub, Nat.reduceLT, Nat.reduceBEq, Nat.reduceLeDiff, ↓reduceIte, Int.reduceToNat, Int.reduceLE, Int.reduceLT, Int.reduceEq, reduceCtorEq, strsAV]
                    refine brK_mk (fun x3 => ?_) (fun x3 => ?_)
                    · have hm' : m < sn.length := by simpa using x3
                      obtain ⟨t, ht⟩ := some_at sn m hm'
                      rw [drop_at _ m _ ht, List.any_cons] at hss
                      simp only [go_sem, Nat.reduceEqDiff, Nat.reduceAdd, Nat.reduceSub, Nat.reduceLT, Nat.reduceBEq, Nat.reduceLeDiff, ↓reduceIte, Int.reduceToNat, Int.reduceLE, Int.reduceLT, Int.reduceEq, reduceCtorEq, x3, map_at (fun s => AV.v (.string (bs s))) _ _ _ ht, XtorG.cs]
                      refine brK_mk (fun x4 => ?_) (fun x4 => ?_) <;> simp only [go_sem, Nat.reduceEqDiff, Nat.reduceAdd, Nat.reduceSub, Nat.reduceLT, Nat.reduceBEq, Nat.reduceLeDiff, ↓reduceIte, Int.reduceToNat, Int.reduceLE, Int.reduceLT, Int.reduceEq, reduceCtorEq, x4]
                      · simp only [x4, Bool.and_true, Bool.true_and, Bool.and_false, Bool.false_and, Bool.or_true, Bool.true_or, Bool.or_false, Bool.false_or, Bool.not_true, Bool.not_false] at hss
                        exact ret_le (hle _) ⟨by rw [badx (by simp only [rxtorB, ← hss, Bool.and_true, Bool.true_and, Bool.and_false, Bool.false_and, Bool.or_true, Bool.true_or, Bool.or_false, Bool.false_or, Bool.not_true, Bool.not_false])], rfl⟩
                      · simp only [x4, Bool.and_true, Bool.true_and, Bool.and_false, Bool.false_and, Bool.or_true, Bool.true_or, Bool.or_false, Bool.false_or, Bool.not_true, Bool.not_false] at hss
                        refine ⟨m + 1, by omega, ⟨by omega, hss⟩, le_mkSl rfl (Hp.le_refl _) ?_⟩
                        simp [go_sem, wrap_up m sn.length hm' (by simp only [maxLen]; have := hj; have h5' := h5; simp at h5'; omega), hcd, hxc, strsAV]
                    · have e : sn.length ≤ m := by simp at x3; omega
                      rw [List.drop_of_length_le e, List.any_nil] at hss
                      simp only [go_sem, Nat.reduceEqDiff, Nat.reduceAdd, Nat.reduceSub, Nat.reduceLT, Nat.reduceBEq, Nat.reduceLeDiff, ↓reduceIte, Int.reduceToNat, Int.reduceLE, Int.reduceLT, Int.reduceEq, reduceCtorEq, x3, XtorG.cs]
                      refine ⟨rfl, by simp, fun hd2 => ?_⟩
                      have hsn48 : sn.length ≤ 54 := by have h5' := h5; simp at h5'; omega
                      refine append_by (a := strsAV h8 sn) (b := .lst 1 hd2 [.v (.string (bs x.name))]) (l1 := [(9, 1, hd2)]) (l2 := hp.sp) (h := h8) (h2 := hd2) Tryz.k101 Tryz.s9 Tryz.y9 Tryz.z9 rfl (by decide)
                        (by simp [go_sem, strsAV]) (Cast.refl _) (by simp [go_sem]) (Cast.refl _) (by simp [go_sem]) (by simp [go_sem]) (by simp [maxLen]; omega) (by simp; omega) (by simp [go_sem]) (fun h' => ?_)
                      simp only [go_sem, Nat.reduceEqDiff, Nat.reduceAdd, Nat.reduceSub, Nat.reduceLT, Nat.reduceBEq, Nat.reduceLeDiff, ↓reduceIte, Int.reduceToNat, Int.reduceLE, Int.reduceLT, Int.reduceEq, reduceCtorEq, XtorG.cs]
                      have hap : (sn.map fun s => AV.v (.string (bs s))) ++ [.v (.string (bs x.name))] = (sn ++ [x.name]).map fun s => AV.v (.string (bs s)) := by simp
                      have hsp : hp.setSp ([(9, 1, hd2)] ++ (9, 1, h') :: hp.sp) = hp.setSp ((9, 1, hd2) :: (9, 1, h') :: hp.sp) := rfl
                      have hle2 : ∀ y z, hp.le (hp.setSp (y :: z :: hp.sp)) := fun y z => ⟨fun _ _ h => h, fun _ _ h => h, (List.sublist_cons_self _ _).trans (List.sublist_cons_self _ _), fun _ h => h⟩
                      have hxb : rxtorB l.length sn x = x.args.all (argB l.length) := by simp only [rxtorB, x1, x2, ← hss, Bool.and_true, Bool.true_and, Bool.and_false, Bool.false_and, Bool.or_true, Bool.true_or, Bool.or_false, Bool.false_or, Bool.not_true, Bool.not_false]
                      refine aw_loopX 107 (fun q : Nat => [(0, .lst 3 hd (l.map DeclG.av)), (17, .lst 3 hd (l.map DeclG.av)), (18, .v (.int .i64 l.length)), (19, .v (.int .i64 i)), (5, .ref (.pointer (some ⟨v, 0, none⟩)) d.cs), (55, .lst 2 d.h (d.xtors.map XtorG.av)), (56, .v (.int .i64 d.xtors.length)), (57, .v (.int .i64 j)), (3, strsAV h' (sn ++ [x.name])), (88, .lst 2 x.h (x.args.map ArgG.av)), (89, .v (.int .i64 x.args.length)), (90, .v (.int .i64 q))])
                        (fun _ => hp.setSp ((9, 1, h') :: hp.sp)) (fun q => q ≤ x.args.length ∧ (x.args.drop q).all (argB l.length) = x.args.all (argB l.length)) (fun q => x.args.length - q) 0
                        ⟨Nat.zero_le _, rfl⟩ (le_mkSl rfl (by simp only [go_sem]; exact le_tail _ _ _ _) (by simp [go_sem, hcd, hxc, strsAV])) ?_
                      rintro q ⟨hq, has⟩
                      refine awp_sound (mu := []) _ _ _ ?_
                      simp only [go_sem, Nat.reduceEqDiff, Nat.reduceAdd, Nat.reduceSub, Nat.reduceLT, Nat.reduceBEq, Nat.reduceLeDiff, ↓reduceIte, Int.reduceToNat, Int.reduceLE, Int.reduceLT, Int.reduceEq, reduceCtorEq]
                      refine brK_mk (fun y1 => ?_) (fun y1 => ?_)
                      · have hq' : q < x.args.length := by simpa using y1
                        obtain ⟨a, ha⟩ := some_at x.args q hq'
                        rw [drop_at _ q _ ha, List.all_cons] at has
                        simp only [go_sem, Nat.reduceEqDiff, Nat.reduceAdd, Nat.reduceSub, Nat.reduceLT, Nat.reduceBEq, Nat.reduceLeDiff, ↓reduceIte, Int.reduceToNat, Int.reduceLE, Int.reduceLT, Int.reduceEq, reduceCtorEq, y1, map_at ArgG.av _ _ _ ha, ArgG.av, ArgG.cs]
                        intro w hw
                        have hdw := fun T cs => Hp.del_set _ _ T cs hw.1
                        refine brK_mk (fun y2 => ?_) (fun y2 => ?_) <;> simp only [go_sem, Nat.reduceEqDiff, Nat.reduceAdd, Nat.reduceSub, Nat.reduceLT, Nat.reduceBEq, Nat.reduceLeDiff, ↓reduceIte, Int.reduceToNat, Int.reduceLE, Int.reduceLT, Int.reduceEq, reduceCtorEq, y2, hdw]
                        · exact ret_le (hle _) ⟨by rw [badx (by rw [hxb, ← has]; simp only [argB, y2, Bool.and_true, Bool.true_and, Bool.and_false, Bool.false_and, Bool.or_true, Bool.true_or, Bool.or_false, Bool.false_or, Bool.not_true, Bool.not_false])], rfl⟩
                        · refine brK_mk (fun y3 => ?_) (fun y3 => ?_) <;> simp only [go_sem, Nat.reduceEqDiff, Nat.reduceAdd, Nat.reduceSub, Nat.reduceLT, Nat.reduceBEq, Nat.reduceLeDiff, ↓reduceIte, Int.reduceToNat, Int.reduceLE, Int.reduceLT, Int.reduceEq, reduceCtorEq, y3, hdw]
                          · exact ret_le (hle _) ⟨by rw [badx (by rw [hxb, ← has]; simp only [argB, y2, y3, Bool.and_true, Bool.true_and, Bool.and_false, Bool.false_and, Bool.or_true, Bool.true_or, Bool.or_false, Bool.false_or, Bool.not_true, Bool.not_false])], rfl⟩
                          · refine ⟨q + 1, by omega, ⟨by omega, by rw [← has]; simp only [argB, y2, y3, Bool.and_true, Bool.true_and, Bool.and_false, Bool.false_and, Bool.or_true, Bool.true_or, Bool.or_false, Bool.false_or, Bool.not_true, Bool.not_false]⟩, le_mkSl rfl (Hp.le_refl _) ?_⟩
                            simp [go_sem, wrap_up q _ hq' hal]
                      · simp only [go_sem, Nat.reduceEqDiff, Nat.reduceAdd, Nat.reduceSub, Nat.reduceLT, Nat.reduceBEq, Nat.reduceLeDiff, ↓reduceIte, Int.reduceToNat, Int.reduceLE, Int.reduceLT, Int.reduceEq, reduceCtorEq, y1]
                        have e : x.args.length ≤ q := by simp at y1; omega
                        have hv : x.args.all (argB l.length) = true := by rw [← has, List.drop_of_length_le e]; rfl
                        simp only [rfitsAll, hxb, hv, if_true] at hfa
                        refine ⟨(j + 1, sn ++ [x.name], h'), by simp only; omega, ⟨by simp only; omega, by simp only [List.length_append, List.length_singleton]; omega, hfa⟩, le_mkSl rfl (Hp.le_refl _) ?_⟩
                        simp [go_sem, wrap_up j _ hj' hxl, strsAV]
                · exact ret_le (hle _) ⟨by rw [badx (by simp only [rxtorB, x1, Bool.and_true, Bool.true_and, Bool.and_false, Bool.false_and, Bool.or_true, Bool.true_or, Bool.or_false, Bool.false_or, Bool.not_true, Bool.not_false])], rfl⟩
              · simp only [go_sem, Nat.reduceEqDiff, Nat.reduceAdd, Nat.reduceSub, Nat.reduceLT, Nat.reduceBEq, Nat.reduceLeDiff, ↓reduceIte, Int.reduceToNat, Int.reduceLE, Int.reduceLT, Int.reduceEq, reduceCtorEq, h9]
                have e : d.xtors.length ≤ j := by simp at h9; omega
                rw [List.drop_of_length_le e, rfitsAll] at hfa
                rw [← hfa] at hall
                have hd6 : d.xtors.length ≤ 6 := by simp at h5; omega
                refine ⟨(i + 1, sn, h8), by simp only; omega, ⟨by simp only; omega, by simp only; omega, ?_⟩, le_mkSl rfl (Hp.le_refl _) ?_⟩
                · rw [← hall]; simp [List.take_add_one, hgd]
                · simp [go_sem, wrap_up i _ hi' hl.len]
      · exact ret_le (hle _) ⟨by rw [bad (by simp only [rdeclB, h2, Bool.and_true, Bool.true_and, Bool.and_false, Bool.false_and, Bool.or_true, Bool.true_or, Bool.or_false, Bool.false_or, Bool.not_true, Bool.not_false])], rfl⟩
    · have e : l.length ≤ i := by simp at h; omega
      rw [List.drop_of_length_le e, risFrom] at hall
      exact ret_le (Hp.le_addSp _ _) ⟨by rw [hvb, ← hall], rfl⟩
end Go.Proofs.YtkoachnlimebaaaGreatDoor
