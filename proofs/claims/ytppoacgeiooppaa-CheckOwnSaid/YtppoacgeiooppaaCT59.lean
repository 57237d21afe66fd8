/- The reference's Copy and Same of declarations. -/
import Derived.Test.YtppoacgeiooppaaCT51
import Derived.Test.YtppoacgeiooppaaCD6
set_option linter.unusedSimpArgs false
set_option linter.unusedVariables false
set_option maxRecDepth 20000
set_option maxHeartbeats 4000000
namespace Go.Proofs.Ytppoacgeiooppaa
open Go.AL

def XtorG.bare (x : XtorG) : List UInt8 × List ArgG := (x.name, x.args)
def DeclG.bare (d : DeclG) : List UInt8 × Bool × List (List UInt8 × List ArgG) := (d.name, d.codata, d.xtors.map XtorG.bare)
theorem bare_at {l l' : List DeclG} (h : l.map DeclG.bare = l'.map DeclG.bare) {i : Nat} {d : DeclG} (hd : l[i]? = some d) : ∃ d', l'[i]? = some d' ∧ d.bare = d'.bare := by
  have h1 : (l'.map DeclG.bare)[i]? = some d.bare := by rw [← h, List.getElem?_map, hd]; rfl
  rw [List.getElem?_map] at h1
  cases hl : l'[i]? with
  | none => rw [hl] at h1; cases h1
  | some d' => rw [hl] at h1; exact ⟨d', rfl, (Option.some.inj h1).symm⟩
theorem bare_len {l l' : List DeclG} (h : l.map DeclG.bare = l'.map DeclG.bare) : l.length = l'.length := by
  have := congrArg List.length h; simpa using this
/-- A copy of these declarations is not too long for a slice. -/
structure CopyFit (l : List DeclG) : Prop where
  len : l.length * 48 ≤ 140737488355328
  xt : ∀ d ∈ l, d.xtors.length * 40 ≤ 140737488355328
  ar : ∀ d ∈ l, ∀ x ∈ d.xtors, x.args.length * 16 ≤ 140737488355328
def spD (hp : Hp) (ho : Value) : Hp := hp.setSp ((71, 3, ho) :: hp.sp)
def spX (hp : Hp) (ho hx : Value) : Hp := hp.setSp ((66, 2, hx) :: (71, 3, ho) :: hp.sp)
theorem spX_le (hp : Hp) (ho hx : Value) : (spD hp ho).le (spX hp ho hx) := ⟨fun _ _ h => h, fun _ _ h => h, List.sublist_cons_self _ _, fun _ h => h⟩
def CopyI (l out : List DeclG) (k : Nat) : Prop := k ≤ l.length ∧ out.map DeclG.bare = (l.take k).map DeclG.bare
def CopyX (l out : List XtorG) (k : Nat) : Prop := k ≤ l.length ∧ out.map XtorG.bare = (l.take k).map XtorG.bare
theorem copyI_len {l out : List DeclG} {k : Nat} (h : CopyI l out k) : out.length = k := by
  have := congrArg List.length h.2; simp at this; have := h.1; omega
theorem copyX_len {l out : List XtorG} {k : Nat} (h : CopyX l out k) : out.length = k := by
  have := congrArg List.length h.2; simp at this; have := h.1; omega
def CopyR (l : List DeclG) (hp : Hp) (r : AV) (hp' : Hp) : Prop := ∃ h' l', r = declsAV h' l' ∧ l'.map DeclG.bare = l.map DeclG.bare ∧ hp' = spD hp h'

theorem ones_arg (l : List ArgG) : ((l.map ArgG.av).flatMap AV.cells).all AV.one = true := by
  induction l with
  | nil => rfl
  | cons a l ih => rw [List.map_cons, List.flatMap_cons, List.all_append, ih]; rfl
theorem copyX_step {l out : List XtorG} {k : Nat} {x : XtorG} (h : CopyX l out k) (hx : l[k]? = some x) (y : XtorG) (hy : y.bare = x.bare) : CopyX l (out ++ [y]) (k + 1) := by
  have hk : k < l.length := (List.getElem?_eq_some_iff.1 hx).1
  refine ⟨hk, ?_⟩
  rw [List.take_add_one, hx, List.map_append, List.map_append, h.2]
  simp [hy]
theorem copyI_step {l out : List DeclG} {k : Nat} {x : DeclG} (h : CopyI l out k) (hx : l[k]? = some x) (y : DeclG) (hy : y.bare = x.bare) : CopyI l (out ++ [y]) (k + 1) := by
  have hk : k < l.length := (List.getElem?_eq_some_iff.1 hx).1
  refine ⟨hk, ?_⟩
  rw [List.take_add_one, hx, List.map_append, List.map_append, h.2]
  simp [hy]

theorem copy_calls (hd : Value) (l : List DeclG) (hc : CopyFit l) (hp : Hp) : ACalls Try.prog 38 [declsAV hd l] hp (CopyR l hp) := by
  refine acalls_fit (callable_of Try.func38 (by decide +kernel)) fun hfit => ?_
  have hl := fit_decls hfit.1
  refine acalls_of Try.func38 rfl (by decide +kernel) (awp_sound (mu := []) _ _ _ ?_)
  simp only [go_sem, Nat.reduceEqDiff, Nat.reduceAdd, Nat.reduceSub, Nat.reduceLT, Nat.reduceMul, Nat.reduceBEq, Nat.reduceLeDiff, ↓reduceIte, Int.reduceToNat, Nat.reduceGT, Int.reduceLE, Int.reduceLT, Int.reduceGE, Int.reduceGT, Int.reduceEq, Int.reduceNe, reduceCtorEq, declsAV]
  refine addNil_by 71 3 ?_
  refine aw_loopX 43 (fun g : Nat × List DeclG × Value => [(0, .lst 3 hd (l.map DeclG.av)), (3, .lst 3 g.2.2 (g.2.1.map DeclG.av)), (9, .lst 3 hd (l.map DeclG.av)), (10, .v (.int .i64 l.length)), (11, .v (.int .i64 g.1))])
    (fun g => spD hp g.2.2) (fun g => CopyI l g.2.1 g.1) (fun g => l.length - g.1) (0, [], .slice none 0 0)
    ⟨Nat.zero_le _, rfl⟩ (le_of_cast rfl (by simp only [go_sem]; exact Hp.le_refl _) (by simp [go_sem, Cast.refl]; exact Cast.nil 3)) ?_
  rintro ⟨k, out, ho⟩ hk
  simp only at hk
  have hout := copyI_len hk
  refine awp_sound (mu := []) _ _ _ ?_
  simp only [go_sem, Nat.reduceEqDiff, Nat.reduceAdd, Nat.reduceSub, Nat.reduceLT, Nat.reduceMul, Nat.reduceBEq, Nat.reduceLeDiff, ↓reduceIte, Int.reduceToNat, Nat.reduceGT, Int.reduceLE, Int.reduceLT, Int.reduceGE, Int.reduceGT, Int.reduceEq, Int.reduceNe, reduceCtorEq]
  refine brK_mk (fun h => ?_) (fun h => ?_) <;> simp only [go_sem, Nat.reduceEqDiff, Nat.reduceAdd, Nat.reduceSub, Nat.reduceLT, Nat.reduceMul, Nat.reduceBEq, Nat.reduceLeDiff, ↓reduceIte, Int.reduceToNat, Nat.reduceGT, Int.reduceLE, Int.reduceLT, Int.reduceGE, Int.reduceGT, Int.reduceEq, Int.reduceNe, reduceCtorEq, h]
  · have hk' : k < l.length := by simpa using h
    obtain ⟨d, hgd⟩ := some_at l k hk'
    have hmem := List.mem_of_getElem? hgd
    have hxl := hl.xt d hmem
    have hcd : d.cs = [.v (.string (bs d.name)), .v (.bool d.codata), .lst 2 d.h (d.xtors.map XtorG.av)] := rfl
    simp only [go_sem, Nat.reduceEqDiff, Nat.reduceAdd, Nat.reduceSub, Nat.reduceLT, Nat.reduceMul, Nat.reduceBEq, Nat.reduceLeDiff, ↓reduceIte, Int.reduceToNat, Nat.reduceGT, Int.reduceLE, Int.reduceLT, Int.reduceGE, Int.reduceGT, Int.reduceEq, Int.reduceNe, reduceCtorEq, h, map_at DeclG.av _ _ _ hgd, DeclG.av, DeclG.cs]
    intro v hv
    have hds := fun T cs => Hp.del_set _ _ T cs hv.1
    simp only [hds]
    refine addNil_by 66 2 ?_
    refine aw_loopX 43 (fun g : Nat × List XtorG × Value => [(0, .lst 3 hd (l.map DeclG.av)), (3, .lst 3 ho (out.map DeclG.av)), (9, .lst 3 hd (l.map DeclG.av)), (10, .v (.int .i64 l.length)), (11, .v (.int .i64 k)), (5, .ref (.pointer (some ⟨v, 0, none⟩)) d.cs), (6, .lst 2 g.2.2 (g.2.1.map XtorG.av)), (16, .lst 2 d.h (d.xtors.map XtorG.av)), (17, .v (.int .i64 d.xtors.length)), (18, .v (.int .i64 g.1))])
      (fun g => spX hp ho g.2.2) (fun g => CopyX d.xtors g.2.1 g.1) (fun g => d.xtors.length - g.1) (0, [], .slice none 0 0)
      ⟨Nat.zero_le _, rfl⟩ (le_of_cast rfl (by simp only [go_sem, hds]; exact Hp.le_refl _) (by simp [go_sem, Cast.refl, hcd]; exact Cast.nil 2)) ?_
    rintro ⟨j, xs, hx⟩ hj
    simp only at hj
    have hxs := copyX_len hj
    refine awp_sound (mu := []) _ _ _ ?_
    simp only [go_sem, Nat.reduceEqDiff, Nat.reduceAdd, Nat.reduceSub, Nat.reduceLT, Nat.reduceMul, Nat.reduceBEq, Nat.reduceLeDiff, ↓reduceIte, Int.reduceToNat, Nat.reduceGT, Int.reduceLE, Int.reduceLT, Int.reduceGE, Int.reduceGT, Int.reduceEq, Int.reduceNe, reduceCtorEq]
    refine brK_mk (fun h3 => ?_) (fun h3 => ?_)
    · have hj' : j < d.xtors.length := by simpa using h3
      obtain ⟨x, hx'⟩ := some_at d.xtors j hj'
      have hxm := List.mem_of_getElem? hx'
      have hal := hl.ar d hmem x hxm
      have hba := hc.ar d hmem x hxm
      have hbx := hc.xt d hmem
      have hxc : x.cs = [.v (.string (bs x.name)), .lst 2 x.h (x.args.map ArgG.av)] := rfl
      simp only [go_sem, Nat.reduceEqDiff, Nat.reduceAdd, Nat.reduceSub, Nat.reduceLT, Nat.reduceMul, Nat.reduceBEq, Nat.reduceLeDiff, ↓reduceIte, Int.reduceToNat, Nat.reduceGT, Int.reduceLE, Int.reduceLT, Int.reduceGE, Int.reduceGT, Int.reduceEq, Int.reduceNe, reduceCtorEq, h3, map_at XtorG.av _ _ _ hx', XtorG.av, XtorG.cs]
      intro u hu
      have hdu := fun T cs => Hp.del_set _ _ T cs hu.1
      simp only [hdu]
      refine draw_by (mu := []) (fun _ => True) (.take 0 (.take 1 (.take 2 (.take 3 (.take 4 (.br 5 (.br 6 (.br 7 (.br 8 (.take 9 (.done)) (.stop)) (.stop)) (.stop)) (.stop))))))) (by decide +kernel) trivial (by decide +kernel) (by decide +kernel) ?_
      simp only [go_sem, Nat.reduceEqDiff, Nat.reduceAdd, Nat.reduceSub, Nat.reduceLT, Nat.reduceMul, Nat.reduceBEq, Nat.reduceLeDiff, ↓reduceIte, Int.reduceToNat, Nat.reduceGT, Int.reduceLE, Int.reduceLT, Int.reduceGE, Int.reduceGT, Int.reduceEq, Int.reduceNe, reduceCtorEq, hdu]
      refine append0_by (a := .v (.slice none 0 0)) (b := .lst 2 x.h (x.args.map ArgG.av)) (h2 := x.h) (ys := x.args.map ArgG.av) Try.k64 Try.s68 Try.y68 Try.z68 rfl (by decide)
        (by simp [go_sem]) (Cast.nil 2) (by simp [go_sem]) (Cast.refl _) (ones_arg _) (by simp; omega) (by simp; omega) (by simp [go_sem]) (fun hA => ?_)
      simp only [go_sem, Nat.reduceEqDiff, Nat.reduceAdd, Nat.reduceSub, Nat.reduceLT, Nat.reduceMul, Nat.reduceBEq, Nat.reduceLeDiff, ↓reduceIte, Int.reduceToNat, Nat.reduceGT, Int.reduceLE, Int.reduceLT, Int.reduceGE, Int.reduceGT, Int.reduceEq, Int.reduceNe, reduceCtorEq]
      refine ⟨rfl, by simp, fun hd2 => ?_⟩
      refine append_by (a := .lst 2 hx (xs.map XtorG.av)) (b := .lst 2 hd2 [XtorG.av ⟨x.name, hA, x.args⟩]) (l1 := [(66, 2, hd2), (68, 2, hA)]) (l2 := (71, 3, ho) :: hp.sp) (h := hx) (h2 := hd2) Try.k69 Try.s66 Try.y66 Try.z66 rfl (by decide)
        (by simp [go_sem]) (Cast.refl _) (by simp [go_sem, XtorG.av, XtorG.cs]) (Cast.refl _) (by simp [go_sem, spX]) (by simp [go_sem, XtorG.av, XtorG.cs]) (by simp [maxLen] at *; omega) (by simp; omega) (by simp [go_sem]) (fun h' => ?_)
      simp only [go_sem, Nat.reduceEqDiff, Nat.reduceAdd, Nat.reduceSub, Nat.reduceLT, Nat.reduceMul, Nat.reduceBEq, Nat.reduceLeDiff, ↓reduceIte, Int.reduceToNat, Nat.reduceGT, Int.reduceLE, Int.reduceLT, Int.reduceGE, Int.reduceGT, Int.reduceEq, Int.reduceNe, reduceCtorEq]
      refine ⟨(j + 1, xs ++ [⟨x.name, hA, x.args⟩], h'), by simp only; omega, copyX_step hj hx' _ rfl, le_mkSl rfl ?_ ?_⟩
      · exact ⟨fun _ _ h => h, fun _ _ h => h, (List.sublist_cons_self _ _).trans (List.sublist_cons_self _ _), fun _ h => h⟩
      · simp [go_sem, wrap_up j _ hj' hxl, hcd]
    · have hbd := hc.len
      have ej : j = d.xtors.length := by have := hj.1; simp at h3; omega
      simp only [go_sem, Nat.reduceEqDiff, Nat.reduceAdd, Nat.reduceSub, Nat.reduceLT, Nat.reduceMul, Nat.reduceBEq, Nat.reduceLeDiff, ↓reduceIte, Int.reduceToNat, Nat.reduceGT, Int.reduceLE, Int.reduceLT, Int.reduceGE, Int.reduceGT, Int.reduceEq, Int.reduceNe, reduceCtorEq, h3, DeclG.cs]
      refine ⟨rfl, by simp, fun hd2 => ?_⟩
      refine append_by (a := .lst 3 ho (out.map DeclG.av)) (b := .lst 3 hd2 [DeclG.av ⟨d.name, d.codata, hx, xs⟩]) (l1 := [(71, 3, hd2), (66, 2, hx)]) (l2 := hp.sp) (h := ho) (h2 := hd2) Try.k22 Try.s71 Try.y71 Try.z71 rfl (by decide)
        (by simp [go_sem]) (Cast.refl _) (by simp [go_sem, DeclG.av, DeclG.cs]) (Cast.refl _) (by simp [go_sem, spX]) (by simp [go_sem, DeclG.av, DeclG.cs]) (by have := hl.len; simp [maxLen] at *; omega) (by simp; omega) (by simp [go_sem]) (fun h' => ?_)
      simp only [go_sem, Nat.reduceEqDiff, Nat.reduceAdd, Nat.reduceSub, Nat.reduceLT, Nat.reduceMul, Nat.reduceBEq, Nat.reduceLeDiff, ↓reduceIte, Int.reduceToNat, Nat.reduceGT, Int.reduceLE, Int.reduceLT, Int.reduceGE, Int.reduceGT, Int.reduceEq, Int.reduceNe, reduceCtorEq]
      refine ⟨(k + 1, out ++ [⟨d.name, d.codata, hx, xs⟩], h'), by simp only; omega, copyI_step hk hgd _ ?_, le_mkSl rfl ?_ ?_⟩
      · simp only [DeclG.bare, hj.2, ej, List.take_length]
      · exact ⟨fun _ _ h => h, fun _ _ h => h, (List.sublist_cons_self _ _).trans (List.sublist_cons_self _ _), fun _ h => h⟩
      · simp [go_sem, wrap_up k _ hk' hl.len]
  · have e : k = l.length := by have := hk.1; simp at h; omega
    subst e
    exact ret_same ⟨ho, out, rfl, by rw [hk.2, List.take_length], rfl⟩

theorem sameArgs_refl (l : List ArgG) : sameBy argEq l l = true := by
  induction l with
  | nil => rfl
  | cons a l ih => simp only [sameBy, ih]; simp [argEq]

theorem same_calls (ha hb : Value) (a b : List DeclG) (hab : a.map DeclG.bare = b.map DeclG.bare) (hp : Hp) : ACalls Try.prog 41 [declsAV ha a, declsAV hb b] hp (fun r hp' => r = .v (.bool true) ∧ hp' = hp) := by
  refine acalls_fit (callable_of Try.func41 (by decide +kernel)) fun hfit => ?_
  have hl := fit_decls hfit.1
  have hlen := bare_len hab
  refine acalls_of Try.func41 rfl (by decide +kernel) (awp_sound (mu := []) _ _ _ ?_)
  simp only [go_sem, Nat.reduceEqDiff, Nat.reduceAdd, Nat.reduceSub, Nat.reduceLT, Nat.reduceMul, Nat.reduceBEq, Nat.reduceLeDiff, ↓reduceIte, Int.reduceToNat, Nat.reduceGT, Int.reduceLE, Int.reduceLT, Int.reduceGE, Int.reduceGT, Int.reduceEq, Int.reduceNe, reduceCtorEq, declsAV, List.length_map, ← hlen]
  refine aw_loopX 97 (fun k : Nat => [(0, .lst 3 ha (a.map DeclG.av)), (1, .lst 3 hb (b.map DeclG.av)), (14, .v (.int .i64 a.length)), (15, .v (.int .i64 k))])
    (fun _ => hp) (fun k => k ≤ a.length) (fun k => a.length - k) 0 (Nat.zero_le _) (le_mkSl rfl (Hp.le_refl _) (by simp [go_sem])) ?_
  intro k hk
  refine awp_sound (mu := []) _ _ _ ?_
  simp only [go_sem, Nat.reduceEqDiff, Nat.reduceAdd, Nat.reduceSub, Nat.reduceLT, Nat.reduceMul, Nat.reduceBEq, Nat.reduceLeDiff, ↓reduceIte, Int.reduceToNat, Nat.reduceGT, Int.reduceLE, Int.reduceLT, Int.reduceGE, Int.reduceGT, Int.reduceEq, Int.reduceNe, reduceCtorEq]
  refine brK_mk (fun h => ?_) (fun h => ?_) <;> simp only [go_sem, Nat.reduceEqDiff, Nat.reduceAdd, Nat.reduceSub, Nat.reduceLT, Nat.reduceMul, Nat.reduceBEq, Nat.reduceLeDiff, ↓reduceIte, Int.reduceToNat, Nat.reduceGT, Int.reduceLE, Int.reduceLT, Int.reduceGE, Int.reduceGT, Int.reduceEq, Int.reduceNe, reduceCtorEq, h]
  · have hk' : k < a.length := by simpa using h
    obtain ⟨d, hgd⟩ := some_at a k hk'
    obtain ⟨e, hge, hbare⟩ := bare_at hab hgd
    have hmem := List.mem_of_getElem? hgd
    have hxl := hl.xt d hmem
    have hcd : d.cs = [.v (.string (bs d.name)), .v (.bool d.codata), .lst 2 d.h (d.xtors.map XtorG.av)] := rfl
    have hb2 := hbare
    simp only [DeclG.bare, Prod.mk.injEq] at hb2
    obtain ⟨hn, hco, hxs⟩ := hb2
    have hxlen : d.xtors.length = e.xtors.length := by have := congrArg List.length hxs; simpa using this
    refine draw_by (mu := []) (fun _ => True) (.take 0 (.take 1 (.take 2 (.take 3 (.take 4 (.take 5 (.take 6 (.take 7 (.take 8 (.take 9 (.take 10 (.take 11 (.take 12 (.take 13 (.take 14 (.take 15 (.take 16 (.take 17 (.take 18 (.take 19 (.take 20 (.take 21 (.take 22 (.take 23 (.take 24 (.take 25 (.take 26 (.take 27 (.take 28 (.take 29 (.take 30 (.take 31 (.take 32 (.take 33 (.take 34 (.take 35 (.take 36 (.take 37 (.take 38 (.done)))))))))))))))))))))))))))))))))))))))) (by decide +kernel) trivial (by decide +kernel) (by decide +kernel) ?_
    simp only [go_sem, Nat.reduceEqDiff, Nat.reduceAdd, Nat.reduceSub, Nat.reduceLT, Nat.reduceMul, Nat.reduceBEq, Nat.reduceLeDiff, ↓reduceIte, Int.reduceToNat, Nat.reduceGT, Int.reduceLE, Int.reduceLT, Int.reduceGE, Int.reduceGT, Int.reduceEq, Int.reduceNe, reduceCtorEq, h, map_at DeclG.av _ _ _ hgd, map_at DeclG.av _ _ _ hge, DeclG.av, DeclG.cs, ← hn, ← hco, ← hxlen, List.length_map]
    refine aw_loopX 97 (fun j : Nat => [(0, .lst 3 ha (a.map DeclG.av)), (1, .lst 3 hb (b.map DeclG.av)), (14, .v (.int .i64 a.length)), (15, .v (.int .i64 k)), (5, .v (.int .i64 k)), (61, .lst 2 d.h (d.xtors.map XtorG.av)), (62, .v (.int .i64 d.xtors.length)), (63, .v (.int .i64 j))])
      (fun _ => hp) (fun j => j ≤ d.xtors.length) (fun j => d.xtors.length - j) 0 (Nat.zero_le _) (le_mkSl rfl (Hp.le_refl _) (by simp [go_sem])) ?_
    intro j hj
    refine awp_sound (mu := []) _ _ _ ?_
    simp only [go_sem, Nat.reduceEqDiff, Nat.reduceAdd, Nat.reduceSub, Nat.reduceLT, Nat.reduceMul, Nat.reduceBEq, Nat.reduceLeDiff, ↓reduceIte, Int.reduceToNat, Nat.reduceGT, Int.reduceLE, Int.reduceLT, Int.reduceGE, Int.reduceGT, Int.reduceEq, Int.reduceNe, reduceCtorEq]
    refine brK_mk (fun h3 => ?_) (fun h3 => ?_) <;> simp only [go_sem, Nat.reduceEqDiff, Nat.reduceAdd, Nat.reduceSub, Nat.reduceLT, Nat.reduceMul, Nat.reduceBEq, Nat.reduceLeDiff, ↓reduceIte, Int.reduceToNat, Nat.reduceGT, Int.reduceLE, Int.reduceLT, Int.reduceGE, Int.reduceGT, Int.reduceEq, Int.reduceNe, reduceCtorEq, h3]
    · have hj' : j < d.xtors.length := by simpa using h3
      obtain ⟨x, hgx⟩ := some_at d.xtors j hj'
      have hbx : (e.xtors.map XtorG.bare)[j]? = some x.bare := by rw [← hxs, List.getElem?_map, hgx]; rfl
      obtain ⟨y, hgy⟩ := some_at e.xtors j (by omega)
      rw [List.getElem?_map, hgy] at hbx
      have hbx2 : y.bare = x.bare := Option.some.inj hbx
      simp only [XtorG.bare, Prod.mk.injEq] at hbx2
      obtain ⟨hxn, hxa⟩ := hbx2
      simp only [go_sem, Nat.reduceEqDiff, Nat.reduceAdd, Nat.reduceSub, Nat.reduceLT, Nat.reduceMul, Nat.reduceBEq, Nat.reduceLeDiff, ↓reduceIte, Int.reduceToNat, Nat.reduceGT, Int.reduceLE, Int.reduceLT, Int.reduceGE, Int.reduceGT, Int.reduceEq, Int.reduceNe, reduceCtorEq, h3, map_at XtorG.av _ _ _ hgx, XtorG.av, XtorG.cs]
      intro u hu
      have hdu := fun T cs => Hp.del_set _ _ T cs hu.1
      simp only [hdu]
      refine draw_by (mu := []) (fun _ => True) (.take 0 (.take 1 (.take 2 (.take 3 (.take 4 (.take 5 (.take 6 (.take 7 (.take 8 (.take 9 (.take 10 (.take 11 (.take 12 (.take 13 (.take 14 (.take 15 (.take 16 (.take 17 (.take 18 (.take 19 (.take 20 (.take 21 (.take 22 (.take 23 (.br 24 (.take 25 (.take 26 (.done))) (.stop)))))))))))))))))))))))))) (by decide +kernel) trivial (by decide +kernel) (by decide +kernel) ?_
      simp only [go_sem, Nat.reduceEqDiff, Nat.reduceAdd, Nat.reduceSub, Nat.reduceLT, Nat.reduceMul, Nat.reduceBEq, Nat.reduceLeDiff, ↓reduceIte, Int.reduceToNat, Nat.reduceGT, Int.reduceLE, Int.reduceLT, Int.reduceGE, Int.reduceGT, Int.reduceEq, Int.reduceNe, reduceCtorEq, hdu, map_at DeclG.av _ _ _ hge, DeclG.av, DeclG.cs, map_at XtorG.av _ _ _ hgy, XtorG.av, XtorG.cs, hxn]
      refine callX_by (sameArgs_calls x.h y.h x.args y.args _) ?_
      rintro r hp2 ⟨rfl, rfl⟩
      simp only [go_sem, Nat.reduceEqDiff, Nat.reduceAdd, Nat.reduceSub, Nat.reduceLT, Nat.reduceMul, Nat.reduceBEq, Nat.reduceLeDiff, ↓reduceIte, Int.reduceToNat, Nat.reduceGT, Int.reduceLE, Int.reduceLT, Int.reduceGE, Int.reduceGT, Int.reduceEq, Int.reduceNe, reduceCtorEq, hxa, sameArgs_refl]
      refine ⟨j + 1, by omega, by omega, le_mkSl rfl (Hp.le_refl _) ?_⟩
      simp [go_sem, wrap_up j _ hj' hxl]
    · refine ⟨k + 1, by omega, by omega, le_mkSl rfl (Hp.le_refl _) ?_⟩
      simp [go_sem, wrap_up k _ hk' hl.len]
  · exact ret_same ⟨rfl, rfl⟩
end Go.Proofs.Ytppoacgeiooppaa
