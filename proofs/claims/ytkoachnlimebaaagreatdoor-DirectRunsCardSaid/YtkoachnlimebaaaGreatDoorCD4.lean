/- Declarations: what the other functions of decl compute. -/
import Derived.Test.YtkoachnlimebaaaGreatDoorCD2
set_option linter.unusedSimpArgs false
set_option linter.unusedVariables false
set_option maxRecDepth 20000
namespace Go.Proofs.YtkoachnlimebaaaGreatDoor
open Go.AL

theorem wrap_dn (n : Nat) (hn : n ≤ maxLen) : IntKind.i64.wrap ((n : Int) - 1) = (n : Int) - 1 := by
  simp only [maxLen] at hn; exact IntWalk.i64_in _ (by omega)

def checkE (l : List DeclG) : Int := if validB l = true then 0 else 10
def resOk (args : List ArgG) : Bool := args.zipIdx.all fun p => p.1.co == decide ((p.2 : Int) = (args.length : Int) - 1)
def resultG (args : List ArgG) : Option Int := if resOk args = true then args.getLast?.map ArgG.typ else none

theorem result_calls (x : XtorG) (hp : Hp) : ACalls Tryz.prog 124 [x.av] hp (fun r hp' => r = .tup [.v (.int .i64 ((resultG x.args).getD 0)), .v (.bool (resultG x.args).isSome)] ∧ hp' = hp) := by
  refine acalls_fit (callable_of Tryz.func124 (by decide +kernel)) fun hfit => ?_
  have hl := fit_xtor hfit.1
  refine acalls_of Tryz.func124 rfl (by decide +kernel) (awp_sound (mu := []) _ _ _ ?_)
  simp only [go_sem, Nat.reduceEqDiff, Nat.reduceAdd, Nat.reduceSub, Nat.reduceLT, Nat.reduceBEq, Nat.reduceLeDiff, ↓reduceIte, Int.reduceToNat, Int.reduceLE, Int.reduceLT, Int.reduceEq, reduceCtorEq, XtorG.av, XtorG.cs]
  intro p
  refine aw_loopX 35 (fun k : Nat => [(1, .ref p [.v (.string (bs x.name)), .lst 2 x.h (x.args.map ArgG.av)]), (4, .v (.int .i64 x.args.length)), (11, .lst 2 x.h (x.args.map ArgG.av)), (12, .v (.int .i64 x.args.length)), (13, .v (.int .i64 k))])
    (fun _ => hp) (fun k => k ≤ x.args.length ∧ (x.args.zipIdx.drop k).all (fun p => p.1.co == decide ((p.2 : Int) = (x.args.length : Int) - 1)) = resOk x.args) (fun k => x.args.length - k) 0
    ⟨Nat.zero_le _, rfl⟩ (le_mkSl rfl (Hp.le_refl _) (by simp [go_sem])) ?_
  rintro k ⟨hk, hall⟩
  refine awp_sound (mu := []) _ _ _ ?_
  simp only [go_sem, Nat.reduceEqDiff, Nat.reduceAdd, Nat.reduceSub, Nat.reduceLT, Nat.reduceBEq, Nat.reduceLeDiff, ↓reduceIte, Int.reduceToNat, Int.reduceLE, Int.reduceLT, Int.reduceEq, reduceCtorEq]
  refine brK_mk (fun h => ?_) (fun h => ?_)
  · have hk' : k < x.args.length := by simpa using h
    obtain ⟨a, hg⟩ := some_at x.args k hk'
    have hz : x.args.zipIdx[k]? = some (a, k) := by rw [List.getElem?_zipIdx, hg]; simp
    rw [drop_at _ k _ hz, List.all_cons] at hall
    simp only [go_sem, Nat.reduceEqDiff, Nat.reduceAdd, Nat.reduceSub, Nat.reduceLT, Nat.reduceBEq, Nat.reduceLeDiff, ↓reduceIte, Int.reduceToNat, Int.reduceLE, Int.reduceLT, Int.reduceEq, reduceCtorEq, h, map_at ArgG.av _ _ _ hg, ArgG.av, ArgG.cs, wrap_dn _ hl]
    intro v hv
    have hds := fun T cs => Hp.del_set _ _ T cs hv.1
    refine brK_mk (fun h2 => ?_) (fun h2 => ?_) <;> simp only [go_sem, Nat.reduceEqDiff, Nat.reduceAdd, Nat.reduceSub, Nat.reduceLT, Nat.reduceBEq, Nat.reduceLeDiff, ↓reduceIte, Int.reduceToNat, Int.reduceLE, Int.reduceLT, Int.reduceEq, reduceCtorEq, h2, hds]
    · refine ⟨k + 1, by omega, ⟨by omega, by rw [← hall]; simp only [h2, Bool.and_true, Bool.true_and, Bool.and_false, Bool.false_and, Bool.or_true, Bool.true_or, Bool.or_false, Bool.false_or, Bool.not_true, Bool.not_false]⟩, le_mkSl rfl (Hp.le_refl _) ?_⟩
      simp [go_sem, wrap_up k _ hk' hl]
    · have hr : resultG x.args = none := by
        have : resOk x.args = false := by rw [← hall]; simp only [h2, Bool.and_true, Bool.true_and, Bool.and_false, Bool.false_and, Bool.or_true, Bool.true_or, Bool.or_false, Bool.false_or, Bool.not_true, Bool.not_false]
        simp [resultG, this]
      exact ret_same ⟨by rw [hr]; rfl, rfl⟩
  · simp only [go_sem, Nat.reduceEqDiff, Nat.reduceAdd, Nat.reduceSub, Nat.reduceLT, Nat.reduceBEq, Nat.reduceLeDiff, ↓reduceIte, Int.reduceToNat, Int.reduceLE, Int.reduceLT, Int.reduceEq, reduceCtorEq, h]
    have e : x.args.length ≤ k := by simp at h; omega
    have hok : resOk x.args = true := by rw [← hall, List.drop_of_length_le (by simp; exact e)]; rfl
    refine brK_mk (fun h2 => ?_) (fun h2 => ?_) <;> simp only [go_sem, Nat.reduceEqDiff, Nat.reduceAdd, Nat.reduceSub, Nat.reduceLT, Nat.reduceBEq, Nat.reduceLeDiff, ↓reduceIte, Int.reduceToNat, Int.reduceLE, Int.reduceLT, Int.reduceEq, reduceCtorEq, h2]
    · have hn : x.args = [] := by apply List.eq_nil_of_length_eq_zero; simp at h2; simp [h2]
      exact ret_same ⟨by simp [resultG, hn], rfl⟩
    · have hpos : 0 < x.args.length := by
        rcases Nat.eq_zero_or_pos x.args.length with h | h
        · rw [h] at h2; simp at h2
        · exact h
      obtain ⟨a, ha⟩ := some_at x.args (x.args.length - 1) (by omega)
      have hi : ((x.args.length : Int) - 1).toNat = x.args.length - 1 := by omega
      have hr : resultG x.args = some a.typ := by
        simp only [resultG, hok, if_true, List.getLast?_eq_getElem?, ha, Option.map_some]
      simp only [go_sem, Nat.reduceEqDiff, Nat.reduceAdd, Nat.reduceSub, Nat.reduceLT, Nat.reduceBEq, Nat.reduceLeDiff, ↓reduceIte, Int.reduceToNat, Int.reduceLE, Int.reduceLT, Int.reduceEq, reduceCtorEq, wrap_dn _ hl, hi, map_at ArgG.av _ _ _ ha, ArgG.av, ArgG.cs]
      refine ⟨by omega, ?_⟩
      exact ret_same ⟨by rw [hr]; rfl, rfl⟩

def sourceX (co : Bool) (x : XtorG) : Bool := if co = true then (resultG x.args).isSome else x.args.all (fun a => !a.co)
def sourceB (l : List DeclG) : Bool := l.all fun d => d.xtors.all (sourceX d.codata)

theorem source_calls (hd : Value) (l : List DeclG) (hp : Hp) (hg : GOk hp) : ACalls Tryz.prog 75 [declsAV hd l] hp
    (fun r hp' => r = .tup [.v (.bool (validB l && sourceB l)), .v (.int .i64 (checkE l))] ∧ hp' = hp) := by
  refine acalls_fit (callable_of Tryz.func75 (by decide +kernel)) fun hfit => ?_
  have hl := fit_decls hfit.1
  refine acalls_of Tryz.func75 rfl (by decide +kernel) (awp_sound (mu := []) _ _ _ ?_)
  simp only [go_sem, Nat.reduceEqDiff, Nat.reduceAdd, Nat.reduceSub, Nat.reduceLT, Nat.reduceBEq, Nat.reduceLeDiff, ↓reduceIte, Int.reduceToNat, Int.reduceLE, Int.reduceLT, Int.reduceEq, reduceCtorEq]
  refine callX_by (valid_calls hd l _ hg) ?_
  rintro r hp' ⟨rfl, rfl⟩
  simp only [go_sem, Nat.reduceEqDiff, Nat.reduceAdd, Nat.reduceSub, Nat.reduceLT, Nat.reduceBEq, Nat.reduceLeDiff, ↓reduceIte, Int.reduceToNat, Int.reduceLE, Int.reduceLT, Int.reduceEq, reduceCtorEq, declsAV]
  refine brK_mk (fun h1 => ?_) (fun h1 => ?_) <;> simp only [go_sem, Nat.reduceEqDiff, Nat.reduceAdd, Nat.reduceSub, Nat.reduceLT, Nat.reduceBEq, Nat.reduceLeDiff, ↓reduceIte, Int.reduceToNat, Int.reduceLE, Int.reduceLT, Int.reduceEq, reduceCtorEq, h1]
  · refine aw_loopX 49 (fun k : Nat => [(15, .lst 3 hd (l.map DeclG.av)), (16, .v (.int .i64 l.length)), (17, .v (.int .i64 k))])
      (fun _ => hp') (fun k => k ≤ l.length ∧ (l.drop k).all (fun d => d.xtors.all (sourceX d.codata)) = sourceB l) (fun k => l.length - k) 0
      ⟨Nat.zero_le _, rfl⟩ (le_mkSl rfl (Hp.le_refl _) (by simp [go_sem])) ?_
    rintro k ⟨hk, hall⟩
    refine awp_sound (mu := []) _ _ _ ?_
    simp only [go_sem, Nat.reduceEqDiff, Nat.reduceAdd, Nat.reduceSub, Nat.reduceLT, Nat.reduceBEq, Nat.reduceLeDiff, ↓reduceIte, Int.reduceToNat, Int.reduceLE, Int.reduceLT, Int.reduceEq, reduceCtorEq]
    refine brK_mk (fun h => ?_) (fun h => ?_)
    · have hk' : k < l.length := by simpa using h
      obtain ⟨d, hgd⟩ := some_at l k hk'
      have hmem := List.mem_of_getElem? hgd
      have hxl := hl.xt d hmem
      rw [drop_at l k d hgd, List.all_cons] at hall
      simp only [go_sem, Nat.reduceEqDiff, Nat.reduceAdd, Nat.reduceSub, Nat.reduceLT, Nat.reduceBEq, Nat.reduceLeDiff, ↓reduceIte, Int.reduceToNat, Int.reduceLE, Int.reduceLT, Int.reduceEq, reduceCtorEq, h, map_at DeclG.av _ _ _ hgd, DeclG.av, DeclG.cs]
      intro v hv
      have hds := fun T cs => Hp.del_set _ _ T cs hv.1
      simp only [hds]
      generalize hsx : sourceX d.codata = sx at hall
      have hcd : d.cs = [.v (.string (bs d.name)), .v (.bool d.codata), .lst 2 d.h (d.xtors.map XtorG.av)] := rfl
      refine aw_loopX 49 (fun j : Nat => [(15, .lst 3 hd (l.map DeclG.av)), (16, .v (.int .i64 l.length)), (17, .v (.int .i64 k)), (5, .ref (.pointer (some ⟨v, 0, none⟩)) d.cs), (22, .lst 2 d.h (d.xtors.map XtorG.av)), (23, .v (.int .i64 d.xtors.length)), (24, .v (.int .i64 j))])
        (fun _ => hp') (fun j => j ≤ d.xtors.length ∧ (d.xtors.drop j).all sx = d.xtors.all sx) (fun j => d.xtors.length - j) 0
        ⟨Nat.zero_le _, rfl⟩ (le_mkSl rfl (by simp only [go_sem, hds]; exact Hp.le_refl _) (by simp [go_sem, DeclG.cs])) ?_
      rintro j ⟨hj, hxs⟩
      refine awp_sound (mu := []) _ _ _ ?_
      simp only [go_sem, Nat.reduceEqDiff, Nat.reduceAdd, Nat.reduceSub, Nat.reduceLT, Nat.reduceBEq, Nat.reduceLeDiff, ↓reduceIte, Int.reduceToNat, Int.reduceLE, Int.reduceLT, Int.reduceEq, reduceCtorEq]
      refine brK_mk (fun h2 => ?_) (fun h2 => ?_)
      · have hj' : j < d.xtors.length := by simpa using h2
        obtain ⟨x, hx⟩ := some_at d.xtors j hj'
        have hal := hl.ar d hmem x (List.mem_of_getElem? hx)
        rw [drop_at _ j _ hx, List.all_cons] at hxs
        simp only [go_sem, Nat.reduceEqDiff, Nat.reduceAdd, Nat.reduceSub, Nat.reduceLT, Nat.reduceBEq, Nat.reduceLeDiff, ↓reduceIte, Int.reduceToNat, Int.reduceLE, Int.reduceLT, Int.reduceEq, reduceCtorEq, h2, map_at XtorG.av _ _ _ hx, XtorG.av, XtorG.cs, DeclG.cs]
        intro u hu
        have hdu := fun T cs => Hp.del_set _ _ T cs hu.1
        have fin : (d.xtors.all sx) = false → (validB l && sourceB l) = false := fun hh => by rw [h1, ← hall, hh]; rfl
        have hst : d.codata = true → sx x = (resultG x.args).isSome := fun h => by rw [← hsx]; simp [sourceX, h]
        have hsf : d.codata = false → sx x = x.args.all (fun a => !a.co) := fun h => by rw [← hsx]; simp [sourceX, h]
        refine brK_mk (fun h3 => ?_) (fun h3 => ?_) <;> simp only [go_sem, Nat.reduceEqDiff, Nat.reduceAdd, Nat.reduceSub, Nat.reduceLT, Nat.reduceBEq, Nat.reduceLeDiff, ↓reduceIte, Int.reduceToNat, Int.reduceLE, Int.reduceLT, Int.reduceEq, reduceCtorEq, h3, hdu]
        · refine callX_by (result_calls x _) ?_
          rintro r hp2 ⟨rfl, rfl⟩
          simp only [go_sem, Nat.reduceEqDiff, Nat.reduceAdd, Nat.reduceSub, Nat.reduceLT, Nat.reduceBEq, Nat.reduceLeDiff, ↓reduceIte, Int.reduceToNat, Int.reduceLE, Int.reduceLT, Int.reduceEq, reduceCtorEq, h3, hdu]
          refine brK_mk (fun h4 => ?_) (fun h4 => ?_) <;> simp only [go_sem, Nat.reduceEqDiff, Nat.reduceAdd, Nat.reduceSub, Nat.reduceLT, Nat.reduceBEq, Nat.reduceLeDiff, ↓reduceIte, Int.reduceToNat, Int.reduceLE, Int.reduceLT, Int.reduceEq, reduceCtorEq, h4, hdu]
          · refine ⟨j + 1, by omega, ⟨by omega, by rw [← hxs, hst h3, h4, Bool.true_and]⟩, le_mkSl rfl (Hp.le_refl _) ?_⟩
            simp [go_sem, wrap_up j _ hj' hxl, hcd, h3]
          · exact ret_same ⟨by rw [fin (by rw [← hxs, hst h3, h4]; rfl)]; simp only [checkE, h1]; rfl, rfl⟩
        · refine aw_loopX 49 (fun i : Nat => [(15, .lst 3 hd (l.map DeclG.av)), (16, .v (.int .i64 l.length)), (17, .v (.int .i64 k)), (5, .ref (.pointer (some ⟨v, 0, none⟩)) d.cs), (22, .lst 2 d.h (d.xtors.map XtorG.av)), (23, .v (.int .i64 d.xtors.length)), (24, .v (.int .i64 j)),
              (38, .lst 2 x.h (x.args.map ArgG.av)), (39, .v (.int .i64 x.args.length)), (40, .v (.int .i64 i))])
            (fun _ => hp') (fun i => i ≤ x.args.length ∧ (x.args.drop i).all (fun a => !a.co) = x.args.all (fun a => !a.co)) (fun i => x.args.length - i) 0
            ⟨Nat.zero_le _, rfl⟩ (le_mkSl rfl (by simp only [go_sem, hdu]; exact Hp.le_refl _) (by simp [go_sem, hcd, h3])) ?_
          rintro i ⟨hi, has⟩
          refine awp_sound (mu := []) _ _ _ ?_
          simp only [go_sem, Nat.reduceEqDiff, Nat.reduceAdd, Nat.reduceSub, Nat.reduceLT, Nat.reduceBEq, Nat.reduceLeDiff, ↓reduceIte, Int.reduceToNat, Int.reduceLE, Int.reduceLT, Int.reduceEq, reduceCtorEq]
          refine brK_mk (fun h5 => ?_) (fun h5 => ?_)
          · have hi' : i < x.args.length := by simpa using h5
            obtain ⟨a, ha⟩ := some_at x.args i hi'
            rw [drop_at _ i _ ha, List.all_cons] at has
            simp only [go_sem, Nat.reduceEqDiff, Nat.reduceAdd, Nat.reduceSub, Nat.reduceLT, Nat.reduceBEq, Nat.reduceLeDiff, ↓reduceIte, Int.reduceToNat, Int.reduceLE, Int.reduceLT, Int.reduceEq, reduceCtorEq, h5, map_at ArgG.av _ _ _ ha, ArgG.av, ArgG.cs]
            intro q hq
            have hdq := fun T cs => Hp.del_set _ _ T cs hq.1
            refine brK_mk (fun h6 => ?_) (fun h6 => ?_) <;> simp only [go_sem, Nat.reduceEqDiff, Nat.reduceAdd, Nat.reduceSub, Nat.reduceLT, Nat.reduceBEq, Nat.reduceLeDiff, ↓reduceIte, Int.reduceToNat, Int.reduceLE, Int.reduceLT, Int.reduceEq, reduceCtorEq, h6, hdq]
            · exact ret_same ⟨by rw [fin (by rw [← hxs, hsf h3, ← has, h6]; rfl)]; simp only [checkE, h1]; rfl, rfl⟩
            · refine ⟨i + 1, by omega, ⟨by omega, by rw [← has]; simp only [h6, Bool.and_true, Bool.true_and, Bool.and_false, Bool.false_and, Bool.or_true, Bool.true_or, Bool.or_false, Bool.false_or, Bool.not_true, Bool.not_false]⟩, le_mkSl rfl (Hp.le_refl _) ?_⟩
              simp [go_sem, wrap_up i _ hi' hal]
          · simp only [go_sem, Nat.reduceEqDiff, Nat.reduceAdd, Nat.reduceSub, Nat.reduceLT, Nat.reduceBEq, Nat.reduceLeDiff, ↓reduceIte, Int.reduceToNat, Int.reduceLE, Int.reduceLT, Int.reduceEq, reduceCtorEq, h5]
            have e : x.args.length ≤ i := by simp at h5; omega
            rw [List.drop_of_length_le e, List.all_nil] at has
            refine ⟨j + 1, by omega, ⟨by omega, by rw [← hxs, hsf h3, ← has, Bool.true_and]⟩, le_mkSl rfl (Hp.le_refl _) ?_⟩
            simp [go_sem, wrap_up j _ hj' hxl, hcd]
      · simp only [go_sem, Nat.reduceEqDiff, Nat.reduceAdd, Nat.reduceSub, Nat.reduceLT, Nat.reduceBEq, Nat.reduceLeDiff, ↓reduceIte, Int.reduceToNat, Int.reduceLE, Int.reduceLT, Int.reduceEq, reduceCtorEq, h2]
        have e : d.xtors.length ≤ j := by simp at h2; omega
        rw [List.drop_of_length_le e, List.all_nil] at hxs
        rw [← hxs, Bool.true_and] at hall
        refine ⟨k + 1, by omega, ⟨by omega, hall⟩, le_mkSl rfl (Hp.le_refl _) ?_⟩
        simp [go_sem, wrap_up k _ hk' hl.len]
    · simp only [go_sem, Nat.reduceEqDiff, Nat.reduceAdd, Nat.reduceSub, Nat.reduceLT, Nat.reduceBEq, Nat.reduceLeDiff, ↓reduceIte, Int.reduceToNat, Int.reduceLE, Int.reduceLT, Int.reduceEq, reduceCtorEq, h]
      have e : l.length ≤ k := by simp at h; omega
      rw [List.drop_of_length_le e] at hall
      exact ret_same ⟨by rw [← hall]; simp only [checkE, h1]; rfl, rfl⟩
  · exact ret_same ⟨by simp only [checkE, h1]; rfl, rfl⟩

theorem wrap_t {t : Int} (n : Nat) (h0 : 0 ≤ t) (h : t ≤ n) (hn : n ≤ maxLen) : IntKind.i64.wrap (t - 1) = t - 1 := by
  simp only [maxLen] at hn; exact IntWalk.i64_in _ (by omega)

def plusB (l : List DeclG) (t : Int) : Bool := decide (t = 0) || !((l[(t - 1).toNat]?.map DeclG.codata).getD false)
theorem plus_calls (hd : Value) (l : List DeclG) (t : Int) (h0 : 0 ≤ t) (ht : t ≤ l.length) (hp : Hp) : ACalls Tryz.prog 134 [declsAV hd l, .v (.int .i64 t)] hp
    (fun r hp' => r = .v (.bool (plusB l t)) ∧ hp' = hp) := by
  refine acalls_fit (callable_of Tryz.func134 (by decide +kernel)) fun hfit => ?_
  have hl := (fit_decls hfit.1).len
  refine acalls_of Tryz.func134 rfl (by decide +kernel) (awp_sound (mu := []) _ _ _ ?_)
  simp only [go_sem, Nat.reduceEqDiff, Nat.reduceAdd, Nat.reduceSub, Nat.reduceLT, Nat.reduceBEq, Nat.reduceLeDiff, ↓reduceIte, Int.reduceToNat, Int.reduceLE, Int.reduceLT, Int.reduceEq, reduceCtorEq, declsAV]
  refine brK_mk (fun h => ?_) (fun h => ?_) <;> simp only [go_sem, Nat.reduceEqDiff, Nat.reduceAdd, Nat.reduceSub, Nat.reduceLT, Nat.reduceBEq, Nat.reduceLeDiff, ↓reduceIte, Int.reduceToNat, Int.reduceLE, Int.reduceLT, Int.reduceEq, reduceCtorEq, h]
  · exact ret_same ⟨by simp only [plusB, h, Bool.and_true, Bool.true_and, Bool.and_false, Bool.false_and, Bool.or_true, Bool.true_or, Bool.or_false, Bool.false_or, Bool.not_true, Bool.not_false], rfl⟩
  · have h' := h
    simp at h'
    obtain ⟨d, hd⟩ := some_at l (t - 1).toNat (by omega)
    simp only [go_sem, Nat.reduceEqDiff, Nat.reduceAdd, Nat.reduceSub, Nat.reduceLT, Nat.reduceBEq, Nat.reduceLeDiff, ↓reduceIte, Int.reduceToNat, Int.reduceLE, Int.reduceLT, Int.reduceEq, reduceCtorEq, h, wrap_t _ h0 ht hl, map_at DeclG.av _ _ _ hd, DeclG.av, DeclG.cs]
    refine ⟨by omega, ?_⟩
    exact ret_same ⟨by simp only [plusB, h, hd, Bool.and_true, Bool.true_and, Bool.and_false, Bool.false_and, Bool.or_true, Bool.true_or, Bool.or_false, Bool.false_or, Bool.not_true, Bool.not_false]; rfl, rfl⟩

end Go.Proofs.YtkoachnlimebaaaGreatDoor
/- Declarations: Result, Lookup, Find; the reference's Find, Codata, Has, Ends. -/
set_option linter.unusedSimpArgs false
set_option linter.unusedVariables false
set_option maxRecDepth 20000
namespace Go.Proofs.YtkoachnlimebaaaGreatDoor
open Go.AL

def codataB (l : List DeclG) (t : Int) : Bool := (l[(t - 1).toNat]?.map DeclG.codata).getD false
def xtorsOf (l : List DeclG) (t : Int) : List XtorG := (l[(t - 1).toNat]?.map DeclG.xtors).getD []
end Go.Proofs.YtkoachnlimebaaaGreatDoor
