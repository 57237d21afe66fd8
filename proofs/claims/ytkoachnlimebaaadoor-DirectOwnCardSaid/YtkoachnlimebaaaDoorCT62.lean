/- The reference's Copy and Same of declarations. -/
import Derived.Test.YtkoachnlimebaaaDoorCT51
import Derived.Test.YtkoachnlimebaaaDoorCD6
import Derived.Test.YtkoachnlimebaaaDoorCT22
import Derived.Test.YtkoachnlimebaaaDoorCAL34
import Derived.Test.YtkoachnlimebaaaDoorCT22
import Derived.Test.YtkoachnlimebaaaDoorCV1
import Derived.Test.YtkoachnlimebaaaDoorCT51
set_option linter.unusedSimpArgs false
set_option linter.unusedVariables false
set_option maxRecDepth 20000
set_option maxHeartbeats 4000000
namespace Go.Proofs.YtkoachnlimebaaaDoor
open Go.AL

def XtorG.bare (x : XtorG) : List UInt8 × List ArgG := (x.name, x.args)
def DeclG.bare (d : DeclG) : List UInt8 × Bool × List (List UInt8 × List ArgG) := (d.name, d.codata, d.xtors.map XtorG.bare)
theorem bare_at {l l' : List DeclG} (h : l.map DeclG.bare = l'.map DeclG.bare) {i : Nat} {d : DeclG} (hd : l[i]? = some d) : ∃ d', l'[i]? = some d' ∧ d.bare = d'.bare := by
  have h1 : (l'.map DeclG.bare)[i]? = some d.bare := by rw [← h, List.getElem?_map, hd]; rfl
  rw [List.getElem?_map] at h1
  cases hl : l'[i]? with
  | none => rw [hl] at h1; cases h1
  | some d' => rw [hl] at h1; exact ⟨d', rfl, (Option.some.inj h1).symm⟩
theorem bare_len {l l' : List DeclG} (h : l.map DeclG.bare = l'.map DeclG.bare) : l.length = l'.length := by
  have := congrArg List.length h; simpa using this
/-- A copy of these declarations is not too long for a slice. -/
structure CopyFit (l : List DeclG) : Prop where
  len : l.length * 48 ≤ 140737488355328
  xt : ∀ d ∈ l, d.xtors.length * 40 ≤ 140737488355328
  ar : ∀ d ∈ l, ∀ x ∈ d.xtors, x.args.length * 16 ≤ 140737488355328
def spD (hp : Hp) (ho : Value) : Hp := hp.setSp ((116, 3, ho) :: hp.sp)
def spX (hp : Hp) (ho hx : Value) : Hp := hp.setSp ((119, 2, hx) :: (116, 3, ho) :: hp.sp)
def CopyI (l out : List DeclG) (k : Nat) : Prop := k ≤ l.length ∧ out.map DeclG.bare = (l.take k).map DeclG.bare
def CopyX (l out : List XtorG) (k : Nat) : Prop := k ≤ l.length ∧ out.map XtorG.bare = (l.take k).map XtorG.bare
theorem copyI_len {l out : List DeclG} {k : Nat} (h : CopyI l out k) : out.length = k := by
  have := congrArg List.length h.2; simp at this; have := h.1; omega
theorem copyX_len {l out : List XtorG} {k : Nat} (h : CopyX l out k) : out.length = k := by
  have := congrArg List.length h.2; simp at this; have := h.1; omega
def CopyR (l : List DeclG) (hp : Hp) (r : AV) (hp' : Hp) : Prop := ∃ h' l', r = declsAV h' l' ∧ l'.map DeclG.bare = l.map DeclG.bare ∧ hp' = spD hp h'

theorem ones_arg (l : List ArgG) : ((l.map ArgG.av).flatMap AV.cells).all AV.one = true := by
  induction l with
  | nil => rfl
  | cons a l ih => rw [List.map_cons, List.flatMap_cons, List.all_append, ih]; rfl
theorem copyX_step {l out : List XtorG} {k : Nat} {x : XtorG} (h : CopyX l out k) (hx : l[k]? = some x) (y : XtorG) (hy : y.bare = x.bare) : CopyX l (out ++ [y]) (k + 1) := by
  have hk : k < l.length := (List.getElem?_eq_some_iff.1 hx).1
  refine ⟨hk, ?_⟩
  rw [List.take_add_one, hx, List.map_append, List.map_append, h.2]
  simp [hy]
theorem copyI_step {l out : List DeclG} {k : Nat} {x : DeclG} (h : CopyI l out k) (hx : l[k]? = some x) (y : DeclG) (hy : y.bare = x.bare) : CopyI l (out ++ [y]) (k + 1) := by
  have hk : k < l.length := (List.getElem?_eq_some_iff.1 hx).1
  refine ⟨hk, ?_⟩
  rw [List.take_add_one, hx, List.map_append, List.map_append, h.2]
  simp [hy]

theorem copy_calls (hd : Value) (l : List DeclG) (hc : CopyFit l) (hp : Hp) : ACalls Tryd.prog 21 [declsAV hd l] hp (CopyR l hp) := by
  refine acalls_fit (callable_of Tryd.func21 (by decide +kernel)) fun hfit => ?_
  have hl := fit_decls hfit.1
  refine acalls_of Tryd.func21 rfl (by decide +kernel) (awp_sound (mu := []) _ _ _ ?_)
  simp only [go_sem, Nat.reduceEqDiff, Nat.reduceAdd, Nat.reduceSub, Nat.reduceLT, Nat.reduceMul, Nat.reduceBEq, Nat.reduceLeDiff, ↓reduceIte, Int.reduceToNat, Nat.reduceGT, Int.reduceLE, Int.reduceLT, Int.reduceGE, Int.reduceGT, Int.reduceEq, Int.reduceNe, reduceCtorEq, declsAV]
  refine addNil_by 116 3 ?_
  refine aw_loopX 43 (fun g : Nat × List DeclG × Value => [(0, .lst 3 hd (l.map DeclG.av)), (3, .lst 3 g.2.2 (g.2.1.map DeclG.av)), (9, .lst 3 hd (l.map DeclG.av)), (10, .v (.int .i64 l.length)), (11, .v (.int .i64 g.1))])
    (fun g => spD hp g.2.2) (fun g => CopyI l g.2.1 g.1) (fun g => l.length - g.1) (0, [], .slice none 0 0)
    ⟨Nat.zero_le _, rfl⟩ (le_of_cast rfl (by simp only [go_sem]; exact Hp.le_refl _) (by simp [go_sem, Cast.refl]; exact Cast.nil 3)) ?_
  rintro ⟨k, out, ho⟩ hk
  simp only at hk
  have hout := copyI_len hk
  refine awp_sound (mu := []) _ _ _ ?_
  simp only [go_sem, Nat.reduceEqDiff, Nat.reduceAdd, Nat.reduceSub, Nat.reduceLT, Nat.reduceMul, Nat.reduceBEq, Nat.reduceLeDiff, ↓reduceIte, Int.reduceToNat, Nat.reduceGT, Int.reduceLE, Int.reduceLT, Int.reduceGE, Int.reduceGT, Int.reduceEq, Int.reduceNe, reduceCtorEq]
  refine brK_mk (fun h => ?_) (fun h => ?_) <;> simp only [go_sem, Nat.reduceEqDiff, Nat.reduceAdd, Nat.reduceSub, Nat.reduceLT, Nat.reduceMul, Nat.reduceBEq, Nat.reduceLeDiff, ↓reduceIte, Int.reduceToNat, Nat.reduceGT, Int.reduceLE, Int.reduceLT, Int.reduceGE, Int.reduceGT, Int.reduceEq, Int.reduceNe, reduceCtorEq, h]
  · have hk' : k < l.length := by simpa using h
    obtain ⟨d, hgd⟩ := some_at l k hk'
    have hmem := List.mem_of_getElem? hgd
    have hxl := hl.xt d hmem
    have hcd : d.cs = [.v (.string (bs d.name)), .v (.bool d.codata), .lst 2 d.h (d.xtors.map XtorG.av)] := rfl
    simp only [go_sem, Nat.reduceEqDiff, Nat.reduceAdd, Nat.reduceSub, Nat.reduceLT, Nat.reduceMul, Nat.reduceBEq, Nat.reduceLeDiff, ↓reduceIte, Int.reduceToNat, Nat.reduceGT, Int.reduceLE, Int.reduceLT, Int.reduceGE, Int.reduceGT, Int.reduceEq, Int.reduceNe, reduceCtorEq, h, map_at DeclG.av _ _ _ hgd, DeclG.av, DeclG.cs]
    intro v hv
    have hds := fun T cs => Hp.del_set _ _ T cs hv.1
    simp only [hds]
    refine addNil_by 119 2 ?_
    refine aw_loopX 43 (fun g : Nat × List XtorG × Value => [(0, .lst 3 hd (l.map DeclG.av)), (3, .lst 3 ho (out.map DeclG.av)), (9, .lst 3 hd (l.map DeclG.av)), (10, .v (.int .i64 l.length)), (11, .v (.int .i64 k)), (5, .ref (.pointer (some ⟨v, 0, none⟩)) d.cs), (6, .lst 2 g.2.2 (g.2.1.map XtorG.av)), (16, .lst 2 d.h (d.xtors.map XtorG.av)), (17, .v (.int .i64 d.xtors.length)), (18, .v (.int .i64 g.1))])
      (fun g => spX hp ho g.2.2) (fun g => CopyX d.xtors g.2.1 g.1) (fun g => d.xtors.length - g.1) (0, [], .slice none 0 0)
      ⟨Nat.zero_le _, rfl⟩ (le_of_cast rfl (by simp only [go_sem, hds]; exact Hp.le_refl _) (by simp [go_sem, Cast.refl, hcd]; exact Cast.nil 2)) ?_
    rintro ⟨j, xs, hx⟩ hj
    simp only at hj
    have hxs := copyX_len hj
    refine awp_sound (mu := []) _ _ _ ?_
    simp only [go_sem, Nat.reduceEqDiff, Nat.reduceAdd, Nat.reduceSub, Nat.reduceLT, Nat.reduceMul, Nat.reduceBEq, Nat.reduceLeDiff, ↓reduceIte, Int.reduceToNat, Nat.reduceGT, Int.reduceLE, Int.reduceLT, Int.reduceGE, Int.reduceGT, Int.reduceEq, Int.reduceNe, reduceCtorEq]
    refine brK_mk (fun h3 => ?_) (fun h3 => ?_)
    · have hj' : j < d.xtors.length := by simpa using h3
      obtain ⟨x, hx'⟩ := some_at d.xtors j hj'
      have hxm := List.mem_of_getElem? hx'
      have hal := hl.ar d hmem x hxm
      have hba := hc.ar d hmem x hxm
      have hbx := hc.xt d hmem
      have hxc : x.cs = [.v (.string (bs x.name)), .lst 2 x.h (x.args.map ArgG.av)] := rfl
      simp only [go_sem, Nat.reduceEqDiff, Nat.reduceAdd, Nat.reduceSub, Nat.reduceLT, Nat.reduceMul, Nat.reduceBEq, Nat.reduceLeDiff, ↓reduceIte, Int.reduceToNat, Nat.reduceGT, Int.reduceLE, Int.reduceLT, Int.reduceGE, Int.reduceGT, Int.reduceEq, Int.reduceNe, reduceCtorEq, h3, map_at XtorG.av _ _ _ hx', XtorG.av, XtorG.cs]
      intro u hu
      have hdu := fun T cs => Hp.del_set _ _ T cs hu.1
      simp only [hdu]
      refine draw_by (mu := []) (fun _ => True) (.take 0 (.take 1 (.take 2 (.take 3 (.take 4 (.br 5 (.br 6 (.br 7 (.br 8 (.take 9 (.done)) (.stop)) (.stop)) (.stop)) (.stop))))))) (by decide +kernel) trivial (by decide +kernel) (by decide +kernel) ?_
      simp only [go_sem, Nat.reduceEqDiff, Nat.reduceAdd, Nat.reduceSub, Nat.reduceLT, Nat.reduceMul, Nat.reduceBEq, Nat.reduceLeDiff, ↓reduceIte, Int.reduceToNat, Nat.reduceGT, Int.reduceLE, Int.reduceLT, Int.reduceGE, Int.reduceGT, Int.reduceEq, Int.reduceNe, reduceCtorEq, hdu]
      refine append0_by (a := .v (.slice none 0 0)) (b := .lst 2 x.h (x.args.map ArgG.av)) (h2 := x.h) (ys := x.args.map ArgG.av) Tryd.k117 Tryd.s128 Tryd.y128 Tryd.z128 rfl (by decide)
        (by simp [go_sem]) (Cast.nil 2) (by simp [go_sem]) (Cast.refl _) (ones_arg _) (by simp; omega) (by simp; omega) (by simp [go_sem]) (fun hA => ?_)
      simp only [go_sem, Nat.reduceEqDiff, Nat.reduceAdd, Nat.reduceSub, Nat.reduceLT, Nat.reduceMul, Nat.reduceBEq, Nat.reduceLeDiff, ↓reduceIte, Int.reduceToNat, Nat.reduceGT, Int.reduceLE, Int.reduceLT, Int.reduceGE, Int.reduceGT, Int.reduceEq, Int.reduceNe, reduceCtorEq]
      refine ⟨rfl, by simp, fun hd2 => ?_⟩
      refine append_by (a := .lst 2 hx (xs.map XtorG.av)) (b := .lst 2 hd2 [XtorG.av ⟨x.name, hA, x.args⟩]) (l1 := [(119, 2, hd2), (128, 2, hA)]) (l2 := (116, 3, ho) :: hp.sp) (h := hx) (h2 := hd2) Tryd.k114 Tryd.s119 Tryd.y119 Tryd.z119 rfl (by decide)
        (by simp [go_sem]) (Cast.refl _) (by simp [go_sem, XtorG.av, XtorG.cs]) (Cast.refl _) (by simp [go_sem, spX]) (by simp [go_sem, XtorG.av, XtorG.cs]) (by simp [maxLen] at *; omega) (by simp; omega) (by simp [go_sem]) (fun h' => ?_)
      simp only [go_sem, Nat.reduceEqDiff, Nat.reduceAdd, Nat.reduceSub, Nat.reduceLT, Nat.reduceMul, Nat.reduceBEq, Nat.reduceLeDiff, ↓reduceIte, Int.reduceToNat, Nat.reduceGT, Int.reduceLE, Int.reduceLT, Int.reduceGE, Int.reduceGT, Int.reduceEq, Int.reduceNe, reduceCtorEq]
      refine ⟨(j + 1, xs ++ [⟨x.name, hA, x.args⟩], h'), by simp only; omega, copyX_step hj hx' _ rfl, le_mkSl rfl ?_ ?_⟩
      · exact ⟨fun _ _ h => h, fun _ _ h => h, (List.sublist_cons_self _ _).trans (List.sublist_cons_self _ _), fun _ h => h⟩
      · simp [go_sem, wrap_up j _ hj' hxl, hcd]
    · have hbd := hc.len
      have ej : j = d.xtors.length := by have := hj.1; simp at h3; omega
      simp only [go_sem, Nat.reduceEqDiff, Nat.reduceAdd, Nat.reduceSub, Nat.reduceLT, Nat.reduceMul, Nat.reduceBEq, Nat.reduceLeDiff, ↓reduceIte, Int.reduceToNat, Nat.reduceGT, Int.reduceLE, Int.reduceLT, Int.reduceGE, Int.reduceGT, Int.reduceEq, Int.reduceNe, reduceCtorEq, h3, DeclG.cs]
      refine ⟨rfl, by simp, fun hd2 => ?_⟩
      refine append_by (a := .lst 3 ho (out.map DeclG.av)) (b := .lst 3 hd2 [DeclG.av ⟨d.name, d.codata, hx, xs⟩]) (l1 := [(116, 3, hd2), (119, 2, hx)]) (l2 := hp.sp) (h := ho) (h2 := hd2) Tryd.k22 Tryd.s116 Tryd.y116 Tryd.z116 rfl (by decide)
        (by simp [go_sem]) (Cast.refl _) (by simp [go_sem, DeclG.av, DeclG.cs]) (Cast.refl _) (by simp [go_sem, spX]) (by simp [go_sem, DeclG.av, DeclG.cs]) (by have := hl.len; simp [maxLen] at *; omega) (by simp; omega) (by simp [go_sem]) (fun h' => ?_)
      simp only [go_sem, Nat.reduceEqDiff, Nat.reduceAdd, Nat.reduceSub, Nat.reduceLT, Nat.reduceMul, Nat.reduceBEq, Nat.reduceLeDiff, ↓reduceIte, Int.reduceToNat, Nat.reduceGT, Int.reduceLE, Int.reduceLT, Int.reduceGE, Int.reduceGT, Int.reduceEq, Int.reduceNe, reduceCtorEq]
      refine ⟨(k + 1, out ++ [⟨d.name, d.codata, hx, xs⟩], h'), by simp only; omega, copyI_step hk hgd _ ?_, le_mkSl rfl ?_ ?_⟩
      · simp only [DeclG.bare, hj.2, ej, List.take_length]
      · exact ⟨fun _ _ h => h, fun _ _ h => h, (List.sublist_cons_self _ _).trans (List.sublist_cons_self _ _), fun _ h => h⟩
      · simp [go_sem, wrap_up k _ hk' hl.len]
  · have e : k = l.length := by have := hk.1; simp at h; omega
    subst e
    exact ret_same ⟨ho, out, rfl, by rw [hk.2, List.take_length], rfl⟩

theorem sameArgs_refl (l : List ArgG) : sameBy argEq l l = true := by
  induction l with
  | nil => rfl
  | cons a l ih => simp only [sameBy, ih]; simp [argEq]

theorem same_calls (ha hb : Value) (a b : List DeclG) (hab : a.map DeclG.bare = b.map DeclG.bare) (hp : Hp) : ACalls Tryd.prog 26 [declsAV ha a, declsAV hb b] hp (fun r hp' => r = .v (.bool true) ∧ hp' = hp) := by
  refine acalls_fit (callable_of Tryd.func26 (by decide +kernel)) fun hfit => ?_
  have hl := fit_decls hfit.1
  have hlen := bare_len hab
  refine acalls_of Tryd.func26 rfl (by decide +kernel) (awp_sound (mu := []) _ _ _ ?_)
  simp only [go_sem, Nat.reduceEqDiff, Nat.reduceAdd, Nat.reduceSub, Nat.reduceLT, Nat.reduceMul, Nat.reduceBEq, Nat.reduceLeDiff, ↓reduceIte, Int.reduceToNat, Nat.reduceGT, Int.reduceLE, Int.reduceLT, Int.reduceGE, Int.reduceGT, Int.reduceEq, Int.reduceNe, reduceCtorEq, declsAV, List.length_map, ← hlen]
  refine aw_loopX 97 (fun k : Nat => [(0, .lst 3 ha (a.map DeclG.av)), (1, .lst 3 hb (b.map DeclG.av)), (14, .v (.int .i64 a.length)), (15, .v (.int .i64 k))])
    (fun _ => hp) (fun k => k ≤ a.length) (fun k => a.length - k) 0 (Nat.zero_le _) (le_mkSl rfl (Hp.le_refl _) (by simp [go_sem])) ?_
  intro k hk
  refine awp_sound (mu := []) _ _ _ ?_
  simp only [go_sem, Nat.reduceEqDiff, Nat.reduceAdd, Nat.reduceSub, Nat.reduceLT, Nat.reduceMul, Nat.reduceBEq, Nat.reduceLeDiff, ↓reduceIte, Int.reduceToNat, Nat.reduceGT, Int.reduceLE, Int.reduceLT, Int.reduceGE, Int.reduceGT, Int.reduceEq, Int.reduceNe, reduceCtorEq]
  refine brK_mk (fun h => ?_) (fun h => ?_) <;> simp only [go_sem, Nat.reduceEqDiff, Nat.reduceAdd, Nat.reduceSub, Nat.reduceLT, Nat.reduceMul, Nat.reduceBEq, Nat.reduceLeDiff, ↓reduceIte, Int.reduceToNat, Nat.reduceGT, Int.reduceLE, Int.reduceLT, Int.reduceGE, Int.reduceGT, Int.reduceEq, Int.reduceNe, reduceCtorEq, h]
  · have hk' : k < a.length := by simpa using h
    obtain ⟨d, hgd⟩ := some_at a k hk'
    obtain ⟨e, hge, hbare⟩ := bare_at hab hgd
    have hmem := List.mem_of_getElem? hgd
    have hxl := hl.xt d hmem
    have hcd : d.cs = [.v (.string (bs d.name)), .v (.bool d.codata), .lst 2 d.h (d.xtors.map XtorG.av)] := rfl
    have hb2 := hbare
    simp only [DeclG.bare, Prod.mk.injEq] at hb2
    obtain ⟨hn, hco, hxs⟩ := hb2
    have hxlen : d.xtors.length = e.xtors.length := by have := congrArg List.length hxs; simpa using this
    refine draw_by (mu := []) (fun _ => True) (.take 0 (.take 1 (.take 2 (.take 3 (.take 4 (.take 5 (.take 6 (.take 7 (.take 8 (.take 9 (.take 10 (.take 11 (.take 12 (.take 13 (.take 14 (.take 15 (.take 16 (.take 17 (.take 18 (.take 19 (.take 20 (.take 21 (.take 22 (.take 23 (.take 24 (.take 25 (.take 26 (.take 27 (.take 28 (.take 29 (.take 30 (.take 31 (.take 32 (.take 33 (.take 34 (.take 35 (.take 36 (.take 37 (.take 38 (.done)))))))))))))))))))))))))))))))))))))))) (by decide +kernel) trivial (by decide +kernel) (by decide +kernel) ?_
    simp only [go_sem, Nat.reduceEqDiff, Nat.reduceAdd, Nat.reduceSub, Nat.reduceLT, Nat.reduceMul, Nat.reduceBEq, Nat.reduceLeDiff, ↓reduceIte, Int.reduceToNat, Nat.reduceGT, Int.reduceLE, Int.reduceLT, Int.reduceGE, Int.reduceGT, Int.reduceEq, Int.reduceNe, reduceCtorEq, h, map_at DeclG.av _ _ _ hgd, map_at DeclG.av _ _ _ hge, DeclG.av, DeclG.cs, ← hn, ← hco, ← hxlen, List.length_map]
    refine aw_loopX 97 (fun j : Nat => [(0, .lst 3 ha (a.map DeclG.av)), (1, .lst 3 hb (b.map DeclG.av)), (14, .v (.int .i64 a.length)), (15, .v (.int .i64 k)), (5, .v (.int .i64 k)), (61, .lst 2 d.h (d.xtors.map XtorG.av)), (62, .v (.int .i64 d.xtors.length)), (63, .v (.int .i64 j))])
      (fun _ => hp) (fun j => j ≤ d.xtors.length) (fun j => d.xtors.length - j) 0 (Nat.zero_le _) (le_mkSl rfl (Hp.le_refl _) (by simp [go_sem])) ?_
    intro j hj
    refine awp_sound (mu := []) _ _ _ ?_
    simp only [go_sem, Nat.reduceEqDiff, Nat.reduceAdd, Nat.reduceSub, Nat.reduceLT, Nat.reduceMul, Nat.reduceBEq, Nat.reduceLeDiff, ↓reduceIte, Int.reduceToNat, Nat.reduceGT, Int.reduceLE, Int.reduceLT, Int.reduceGE, Int.reduceGT, Int.reduceEq, Int.reduceNe, reduceCtorEq]
    refine brK_mk (fun h3 => ?_) (fun h3 => ?_) <;> simp only [go_sem, Nat.reduceEqDiff, Nat.reduceAdd, Nat.reduceSub, Nat.reduceLT, Nat.reduceMul, Nat.reduceBEq, Nat.reduceLeDiff, ↓reduceIte, Int.reduceToNat, Nat.reduceGT, Int.reduceLE, Int.reduceLT, Int.reduceGE, Int.reduceGT, Int.reduceEq, Int.reduceNe, reduceCtorEq, h3]
    · have hj' : j < d.xtors.length := by simpa using h3
      obtain ⟨x, hgx⟩ := some_at d.xtors j hj'
      have hbx : (e.xtors.map XtorG.bare)[j]? = some x.bare := by rw [← hxs, List.getElem?_map, hgx]; rfl
      obtain ⟨y, hgy⟩ := some_at e.xtors j (by omega)
      rw [List.getElem?_map, hgy] at hbx
      have hbx2 : y.bare = x.bare := Option.some.inj hbx
      simp only [XtorG.bare, Prod.mk.injEq] at hbx2
      obtain ⟨hxn, hxa⟩ := hbx2
      simp only [go_sem, Nat.reduceEqDiff, Nat.reduceAdd, Nat.reduceSub, Nat.reduceLT, Nat.reduceMul, Nat.reduceBEq, Nat.reduceLeDiff, ↓reduceIte, Int.reduceToNat, Nat.reduceGT, Int.reduceLE, Int.reduceLT, Int.reduceGE, Int.reduceGT, Int.reduceEq, Int.reduceNe, reduceCtorEq, h3, map_at XtorG.av _ _ _ hgx, XtorG.av, XtorG.cs]
      intro u hu
      have hdu := fun T cs => Hp.del_set _ _ T cs hu.1
      simp only [hdu]
      refine draw_by (mu := []) (fun _ => True) (.take 0 (.take 1 (.take 2 (.take 3 (.take 4 (.take 5 (.take 6 (.take 7 (.take 8 (.take 9 (.take 10 (.take 11 (.take 12 (.take 13 (.take 14 (.take 15 (.take 16 (.take 17 (.take 18 (.take 19 (.take 20 (.take 21 (.take 22 (.take 23 (.br 24 (.take 25 (.take 26 (.done))) (.stop)))))))))))))))))))))))))) (by decide +kernel) trivial (by decide +kernel) (by decide +kernel) ?_
      simp only [go_sem, Nat.reduceEqDiff, Nat.reduceAdd, Nat.reduceSub, Nat.reduceLT, Nat.reduceMul, Nat.reduceBEq, Nat.reduceLeDiff, ↓reduceIte, Int.reduceToNat, Nat.reduceGT, Int.reduceLE, Int.reduceLT, Int.reduceGE, Int.reduceGT, Int.reduceEq, Int.reduceNe, reduceCtorEq, hdu, map_at DeclG.av _ _ _ hge, DeclG.av, DeclG.cs, map_at XtorG.av _ _ _ hgy, XtorG.av, XtorG.cs, hxn]
      refine callX_by (sameArgs_calls x.h y.h x.args y.args _) ?_
      rintro r hp2 ⟨rfl, rfl⟩
      simp only [go_sem, Nat.reduceEqDiff, Nat.reduceAdd, Nat.reduceSub, Nat.reduceLT, Nat.reduceMul, Nat.reduceBEq, Nat.reduceLeDiff, ↓reduceIte, Int.reduceToNat, Nat.reduceGT, Int.reduceLE, Int.reduceLT, Int.reduceGE, Int.reduceGT, Int.reduceEq, Int.reduceNe, reduceCtorEq, hxa, sameArgs_refl]
      refine ⟨j + 1, by omega, by omega, le_mkSl rfl (Hp.le_refl _) ?_⟩
      simp [go_sem, wrap_up j _ hj' hxl]
    · refine ⟨k + 1, by omega, by omega, le_mkSl rfl (Hp.le_refl _) ?_⟩
      simp [go_sem, wrap_up k _ hk' hl.len]
  · exact ret_same ⟨rfl, rfl⟩
end Go.Proofs.YtkoachnlimebaaaDoor
/- The reference of the layer 'term': Copy. -/
set_option linter.unusedSimpArgs false
set_option linter.unusedVariables false
set_option maxRecDepth 20000
set_option maxHeartbeats 4000000
namespace Go.Proofs.YtkoachnlimebaaaDoor
open Go.AL

mutual
def bareT : TermG → TermG
  | .mk op n name ty _ args _ cls => .mk op n name ty (.slice none 0 0) (bareA args) (.slice none 0 0) (bareC cls)
def bareA : List TermG → List TermG
  | [] => []
  | a :: r => bareT a :: bareA r
def bareC : List ClauseG → List ClauseG
  | [] => []
  | c :: r => bareB c :: bareC r
def bareB : ClauseG → ClauseG
  | .mk _ names b => .mk (.slice none 0 0) names (bareT b)
end
theorem bareA_map : ∀ l : List TermG, bareA l = l.map bareT
  | [] => by rw [bareA]; rfl
  | a :: r => by rw [bareA, bareA_map r]; rfl
theorem bareC_map : ∀ l : List ClauseG, bareC l = l.map bareB
  | [] => by rw [bareC]; rfl
  | a :: r => by rw [bareC, bareC_map r]; rfl
theorem bareT_eq (t : TermG) : bareT t = .mk t.op t.n t.name t.ty (.slice none 0 0) (t.args.map bareT) (.slice none 0 0) (t.cls.map bareB) := by cases t; rw [bareT, bareA_map, bareC_map]; rfl
theorem bareB_eq (c : ClauseG) : bareB c = .mk (.slice none 0 0) c.names (bareT c.body) := by cases c; rw [bareB]; rfl
theorem smT_arg {t a : TermG} (h : smT t) (ha : a ∈ t.args) : smT a := by
  have go : ∀ l : List TermG, smA l → ∀ a ∈ l, smT a := by
    intro l
    induction l with
    | nil => intro _ a ha; cases ha
    | cons b r ih =>
      intro h a ha
      rw [smA] at h
      rcases List.mem_cons.1 ha with rfl | ha
      · exact h.1
      · exact ih h.2 a ha
  rw [TermG.eta t, smT] at h
  exact go _ h.2.1 a ha
theorem smT_cls {t : TermG} {c : ClauseG} (h : smT t) (hc : c ∈ t.cls) : c.names.length * 16 ≤ reachBytes ∧ smT c.body := by
  have go : ∀ l : List ClauseG, smC l → ∀ c ∈ l, c.names.length * 16 ≤ reachBytes ∧ smT c.body := by
    intro l
    induction l with
    | nil => intro _ a ha; cases ha
    | cons b r ih =>
      intro h a ha
      rw [smC] at h
      rcases List.mem_cons.1 ha with rfl | ha
      · have := h.1
        rw [ClauseG.eta a, smB] at this; exact this
      · exact ih h.2 a ha
  rw [TermG.eta t, smT] at h
  exact go _ h.2.2 c hc
theorem ones_cls (l : List ClauseG) : ((l.map ClauseG.av).flatMap AV.cells).all AV.one = true := by
  induction l with
  | nil => rfl
  | cons a l ih =>
    rw [List.map_cons, List.flatMap_cons, List.all_append, ih, ClauseG.av, ClauseG.cs_eq]; rfl
def outCs (t : TermG) (hA hC : Value) (A : List TermG) (C : List ClauseG) : List AV := [.v (.int .i64 t.op), .v (.int .i64 t.n), .v (.string (bs t.name)), .v (.int .i64 t.ty), .lst 6 hA (A.map TermG.av), .lst 7 hC (C.map ClauseG.av)]
def zeroCs : List AV := [.v (.int .i64 0), .v (.int .i64 0), .v (.string (bs [])), .v (.int .i64 0), .v (.slice none 0 0), .v (.slice none 0 0)]
def cpHp (hp : Hp) (b2 b3 : Nat) (t : TermG) (hA hC : Value) (A : List TermG) (C : List ClauseG) : Hp := ((hp.setSp ((46, 6, hA) :: (121, 7, hC) :: hp.sp)).setBlk b2 46 zeroCs).setBlk b3 46 (outCs t hA hC A C)
theorem copyT_calls : ∀ (N : Nat) (t : TermG), nodesT t ≤ N → N ≤ 5000 → smT t → ∀ (hp : Hp), ACalls Tryd.prog 22 [t.av] hp (fun r hp' => (∃ t', r = t'.av ∧ bareT t' = bareT t) ∧ hp' = hp)
  | 0, t, hN, _, _, _ => by have := nodesT_pos t; omega
  | N + 1, t, hN, hN2, hsm, hp => by
    have hrec := copyT_calls N
    have hnt := nodesT_eq t
    have hlA := argsN_len t.args
    have hlC := clsN_len t.cls
    refine acalls_addNil 121 7 (acalls_addNil 46 6 ?_)
    refine acalls_of Tryd.func22 rfl (by decide +kernel) (awp_sound (mu := [3, 9, 10, 24, 44]) _ _ _ ?_)
    simp only [go_sem, Nat.reduceEqDiff, Nat.reduceAdd, Nat.reduceSub, Nat.reduceLT, Nat.reduceMul, Nat.reduceBEq, Nat.reduceLeDiff, ↓reduceIte, Int.reduceToNat, Nat.reduceGT, Int.reduceLE, Int.reduceLT, Int.reduceGE, Int.reduceGT, Int.reduceEq, Int.reduceNe, reduceCtorEq, TermG.av, TermG.cs_eq]
    intro q1 b2 hb2 b3 hb3
    have hne : b3 ≠ b2 := by rintro rfl; have := hb3.1; simp [Hp.setBlk] at this
    have hn2 : hp.blk b2 = none := hb2.1
    have hn3 : hp.blk b3 = none := by have := hb3.1; simpa [Hp.setBlk, Hp.setSp, hne] using this
    refine castBlk_by b3 46 [.v (.int .i64 t.op), .v (.int .i64 t.n), .v (.string (bs t.name)), .v (.int .i64 t.ty), .v (.slice none 0 0), .v (.slice none 0 0)] (outCs t (.slice none 0 0) (.slice none 0 0) [] []) (by simp [Hp.setBlk, St.setHp, go_sem]) rfl
      (fun m h => ⟨trivial, trivial, trivial, trivial, (Cast.nil 6).2 m trivial, (Cast.nil 7).2 m trivial, trivial⟩) ?_
    refine aw_loopX 47 (fun x : Nat × Value × List TermG => [(1, .ref q1 [.v (.int .i64 t.op), .v (.int .i64 t.n), .v (.string (bs t.name)), .v (.int .i64 t.ty), .lst 6 t.ha (t.args.map TermG.av), .lst 7 t.hc (t.cls.map ClauseG.av)]), (2, .v (.pointer (some ⟨b2, 0, none⟩))), (3, .v (.pointer (some ⟨b3, 0, none⟩))), (12, .lst 6 t.ha (t.args.map TermG.av)), (13, .v (.int .i64 t.args.length)), (14, .v (.int .i64 x.1))])
      (fun x => cpHp hp b2 b3 t x.2.1 (.slice none 0 0) x.2.2 []) (fun x => x.1 ≤ t.args.length ∧ x.2.2.map bareT = (t.args.take x.1).map bareT) (fun x => t.args.length - x.1) (0, .slice none 0 0, []) ⟨Nat.zero_le _, rfl⟩
      (le_mkSl rfl ⟨fun i x hi => by
        simp only [go_sem, Nat.reduceEqDiff, Nat.reduceAdd, Nat.reduceSub, Nat.reduceLT, Nat.reduceMul, Nat.reduceBEq, Nat.reduceLeDiff, ↓reduceIte, Int.reduceToNat, Nat.reduceGT, Int.reduceLE, Int.reduceLT, Int.reduceGE, Int.reduceGT, Int.reduceEq, Int.reduceNe, reduceCtorEq] at hi ⊢
        simp only [cpHp, Hp.setBlk, Hp.setSp] at hi
        by_cases e3 : i = b3
        · simpa [e3] using hi
        · by_cases e2 : i = b2
          · subst e2; simpa [e3, zeroCs] using hi
          · simpa [e3, e2] using hi, fun _ _ h => h, List.Sublist.refl _, fun _ h => h⟩ (by simp [go_sem])) ?_
    rintro ⟨k, hA, A⟩ ⟨hk, hAk⟩
    simp only at hk hAk
    have hAl : A.length = k := by have := congrArg List.length hAk; simp at this; omega
    have hbk : (cpHp hp b2 b3 t hA (.slice none 0 0) A []).blk b3 = some (46, outCs t hA (.slice none 0 0) A []) := by simp [cpHp, Hp.setBlk]
    simp only [outCs] at hbk
    refine awp_sound (mu := [3, 9, 10, 24, 44]) _ _ _ ?_
    simp only [go_sem, Nat.reduceEqDiff, Nat.reduceAdd, Nat.reduceSub, Nat.reduceLT, Nat.reduceMul, Nat.reduceBEq, Nat.reduceLeDiff, ↓reduceIte, Int.reduceToNat, Nat.reduceGT, Int.reduceLE, Int.reduceLT, Int.reduceGE, Int.reduceGT, Int.reduceEq, Int.reduceNe, reduceCtorEq]
    refine brK_mk (fun b1 => ?_) (fun b1 => ?_) <;> simp only [go_sem, Nat.reduceEqDiff, Nat.reduceAdd, Nat.reduceSub, Nat.reduceLT, Nat.reduceMul, Nat.reduceBEq, Nat.reduceLeDiff, ↓reduceIte, Int.reduceToNat, Nat.reduceGT, Int.reduceLE, Int.reduceLT, Int.reduceGE, Int.reduceGT, Int.reduceEq, Int.reduceNe, reduceCtorEq, b1]
    · have hk' : k < t.args.length := by simpa using b1
      obtain ⟨a, ha⟩ := someAt t.args k hk'
      have hmem := List.mem_of_getElem? ha
      have hlt := args_lt hmem
      have hwk : IntKind.i64.wrap ((k : Int) + 1) = ((k + 1 : Nat) : Int) := IntWalk.i64_in _ (by omega)
      simp only [go_sem, Nat.reduceEqDiff, Nat.reduceAdd, Nat.reduceSub, Nat.reduceLT, Nat.reduceMul, Nat.reduceBEq, Nat.reduceLeDiff, ↓reduceIte, Int.reduceToNat, Nat.reduceGT, Int.reduceLE, Int.reduceLT, Int.reduceGE, Int.reduceGT, Int.reduceEq, Int.reduceNe, reduceCtorEq, mapAt TermG.av _ _ _ ha, TermG.av, TermG.cs_eq]
      intro v hv
      have hdv := fun T cs => Hp.del_set _ _ T cs hv.1
      simp only [hdv]
      refine draw_by (mu := [3, 9, 10, 24, 44]) (fun _ => True) (.take 0 (.take 2 (.br 1 (.br 3 (.br 4 (.br 5 (.take 6 (.br 7 (.done) (.stop))) (.stop)) (.stop)) (.stop)) (.br 3 (.br 1 (.br 4 (.br 5 (.take 6 (.br 7 (.done) (.stop))) (.stop)) (.stop)) (.br 4 (.br 1 (.br 5 (.take 6 (.br 7 (.done) (.stop))) (.stop)) (.stop)) (.stop))) (.stop))))) (by decide +kernel) trivial (by decide +kernel) (by decide +kernel) ?_
      simp only [go_sem, Nat.reduceEqDiff, Nat.reduceAdd, Nat.reduceSub, Nat.reduceLT, Nat.reduceMul, Nat.reduceBEq, Nat.reduceLeDiff, ↓reduceIte, Int.reduceToNat, Nat.reduceGT, Int.reduceLE, Int.reduceLT, Int.reduceGE, Int.reduceGT, Int.reduceEq, Int.reduceNe, reduceCtorEq, hbk]
      have c := fun hp => hrec a (by omega) (by omega) (smT_arg hsm hmem) hp
      simp only [TermG.av, TermG.cs_eq] at c
      repeat' first
        | with_reducible exact trivial
        | (refine callX_by (c _) ?_; rintro r hp1 ⟨⟨a', rfl, ha'⟩, rfl⟩; try simp only [go_sem, Nat.reduceEqDiff, Nat.reduceAdd, Nat.reduceSub, Nat.reduceLT, Nat.reduceMul, Nat.reduceBEq, Nat.reduceLeDiff, ↓reduceIte, Int.reduceToNat, Nat.reduceGT, Int.reduceLE, Int.reduceLT, Int.reduceGE, Int.reduceGT, Int.reduceEq, Int.reduceNe, reduceCtorEq, hbk])
        | (refine ⟨rfl, by simp, fun hd => ?_⟩; try simp only [go_sem, Nat.reduceEqDiff, Nat.reduceAdd, Nat.reduceSub, Nat.reduceLT, Nat.reduceMul, Nat.reduceBEq, Nat.reduceLeDiff, ↓reduceIte, Int.reduceToNat, Nat.reduceGT, Int.reduceLE, Int.reduceLT, Int.reduceGE, Int.reduceGT, Int.reduceEq, Int.reduceNe, reduceCtorEq, hbk])
        | (refine append_at 1 Tryd.k43 Tryd.s46 Tryd.y46 Tryd.z46 rfl (by decide) rfl (Cast.refl _) rfl (Cast.refl _) rfl (by first | rfl | exact ones_terms [_]) (by simp [maxLen]; omega) (by simp; omega) (by simp [go_sem]) (fun hA' => ?_); try simp only [go_sem, Nat.reduceEqDiff, Nat.reduceAdd, Nat.reduceSub, Nat.reduceLT, Nat.reduceMul, Nat.reduceBEq, Nat.reduceLeDiff, ↓reduceIte, Int.reduceToNat, Nat.reduceGT, Int.reduceLE, Int.reduceLT, Int.reduceGE, Int.reduceGT, Int.reduceEq, Int.reduceNe, reduceCtorEq, hbk, hwk])
        | (with_reducible refine And.intro ?_ ?_)
      all_goals
        exact ⟨(k + 1, hA', A ++ [a']), by simp only; omega, ⟨by simp only; omega, by rw [List.map_append, hAk, List.take_add_one, ha]; simp [ha']⟩, le_mkSl rfl ⟨fun i x hi => by
          simp only [go_sem, Nat.reduceEqDiff, Nat.reduceAdd, Nat.reduceSub, Nat.reduceLT, Nat.reduceMul, Nat.reduceBEq, Nat.reduceLeDiff, ↓reduceIte, Int.reduceToNat, Nat.reduceGT, Int.reduceLE, Int.reduceLT, Int.reduceGE, Int.reduceGT, Int.reduceEq, Int.reduceNe, reduceCtorEq] at hi ⊢
          simp only [cpHp, outCs, Hp.setBlk, Hp.setSp] at hi ⊢
          by_cases e3 : i = b3
          · simpa [e3, splice, List.map_append, TermG.av, TermG.cs_eq] using hi
          · by_cases e2 : i = b2
            · subst e2; simpa [e3, zeroCs] using hi
            · simpa [e3, e2] using hi, fun _ _ h => h, List.sublist_cons_self _ _, fun _ h => h⟩ (by simp [go_sem, hwk])⟩
    · have e0 : k = t.args.length := by have := of_decide_eq_false b1; omega
      subst e0
      rw [List.take_length] at hAk
      refine aw_loopX 47 (fun x : Nat × Value × List ClauseG => [(1, .ref q1 [.v (.int .i64 t.op), .v (.int .i64 t.n), .v (.string (bs t.name)), .v (.int .i64 t.ty), .lst 6 t.ha (t.args.map TermG.av), .lst 7 t.hc (t.cls.map ClauseG.av)]), (2, .v (.pointer (some ⟨b2, 0, none⟩))), (3, .v (.pointer (some ⟨b3, 0, none⟩))), (27, .lst 7 t.hc (t.cls.map ClauseG.av)), (28, .v (.int .i64 t.cls.length)), (29, .v (.int .i64 x.1))])
        (fun x => cpHp hp b2 b3 t hA x.2.1 A x.2.2) (fun x => x.1 ≤ t.cls.length ∧ x.2.2.map bareB = (t.cls.take x.1).map bareB) (fun x => t.cls.length - x.1) (0, .slice none 0 0, []) ⟨Nat.zero_le _, rfl⟩
        (le_mkSl rfl (Hp.le_refl _) (by simp [go_sem])) ?_
      rintro ⟨k, hC, C⟩ ⟨hk, hCk⟩
      simp only at hk hCk
      have hCl : C.length = k := by have := congrArg List.length hCk; simp at this; omega
      clear hbk
      have hbk : (cpHp hp b2 b3 t hA hC A C).blk b3 = some (46, outCs t hA hC A C) := by simp [cpHp, Hp.setBlk]
      simp only [outCs] at hbk
      have hbk2 : (cpHp hp b2 b3 t hA hC A C).blk b2 = some (46, zeroCs) := by simp [cpHp, Hp.setBlk, Ne.symm hne]
      simp only [zeroCs] at hbk2
      refine awp_sound (mu := [3, 9, 10, 24, 44]) _ _ _ ?_
      simp only [go_sem, Nat.reduceEqDiff, Nat.reduceAdd, Nat.reduceSub, Nat.reduceLT, Nat.reduceMul, Nat.reduceBEq, Nat.reduceLeDiff, ↓reduceIte, Int.reduceToNat, Nat.reduceGT, Int.reduceLE, Int.reduceLT, Int.reduceGE, Int.reduceGT, Int.reduceEq, Int.reduceNe, reduceCtorEq]
      refine brK_mk (fun b1 => ?_) (fun b1 => ?_) <;> simp only [go_sem, Nat.reduceEqDiff, Nat.reduceAdd, Nat.reduceSub, Nat.reduceLT, Nat.reduceMul, Nat.reduceBEq, Nat.reduceLeDiff, ↓reduceIte, Int.reduceToNat, Nat.reduceGT, Int.reduceLE, Int.reduceLT, Int.reduceGE, Int.reduceGT, Int.reduceEq, Int.reduceNe, reduceCtorEq, b1]
      · have hk' : k < t.cls.length := by simpa using b1
        obtain ⟨c1, hc1⟩ := someAt t.cls k hk'
        have hmem := List.mem_of_getElem? hc1
        have hlt := cls_lt hmem
        obtain ⟨hnl, hsb⟩ := smT_cls hsm hmem
        have hR : reachBytes = 140737488351232 := rfl
        have hwk : IntKind.i64.wrap ((k : Int) + 1) = ((k + 1 : Nat) : Int) := IntWalk.i64_in _ (by omega)
        simp only [go_sem, Nat.reduceEqDiff, Nat.reduceAdd, Nat.reduceSub, Nat.reduceLT, Nat.reduceMul, Nat.reduceBEq, Nat.reduceLeDiff, ↓reduceIte, Int.reduceToNat, Nat.reduceGT, Int.reduceLE, Int.reduceLT, Int.reduceGE, Int.reduceGT, Int.reduceEq, Int.reduceNe, reduceCtorEq, mapAt ClauseG.av _ _ _ hc1, ClauseG.av, ClauseG.cs_eq]
        intro v hv
        have hdv := fun T cs => Hp.del_set _ _ T cs hv.1
        simp only [hdv]
        refine draw_by (mu := [3, 9, 10, 24, 44]) (fun _ => True) (.take 0 (.take 2 (.take 3 (.take 5 (.take 6 (.br 1 (.br 4 (.br 7 (.br 8 (.br 9 (.br 10 (.take 11 (.br 12 (.done) (.stop))) (.stop)) (.stop)) (.stop)) (.stop)) (.stop)) (.br 4 (.br 1 (.br 7 (.br 8 (.br 9 (.br 10 (.take 11 (.br 12 (.done) (.stop))) (.stop)) (.stop)) (.stop)) (.stop)) (.br 7 (.br 1 (.br 8 (.br 9 (.br 10 (.take 11 (.br 12 (.done) (.stop))) (.stop)) (.stop)) (.stop)) (.br 8 (.br 1 (.br 9 (.br 10 (.take 11 (.br 12 (.done) (.stop))) (.stop)) (.stop)) (.br 9 (.br 1 (.br 10 (.take 11 (.br 12 (.done) (.stop))) (.stop)) (.stop)) (.stop))) (.stop))) (.stop))) (.stop)))))))) (by decide +kernel) trivial (by decide +kernel) (by decide +kernel) ?_
        simp only [go_sem, Nat.reduceEqDiff, Nat.reduceAdd, Nat.reduceSub, Nat.reduceLT, Nat.reduceMul, Nat.reduceBEq, Nat.reduceLeDiff, ↓reduceIte, Int.reduceToNat, Nat.reduceGT, Int.reduceLE, Int.reduceLT, Int.reduceGE, Int.reduceGT, Int.reduceEq, Int.reduceNe, reduceCtorEq, hbk]
        have c := fun hp => hrec c1.body (by omega) (by omega) hsb hp
        simp only [TermG.av, TermG.cs_eq] at c
        repeat' first
          | with_reducible exact trivial
          | (refine callX_by (c _) ?_; rintro r hp1 ⟨⟨a', rfl, ha'⟩, rfl⟩; try simp only [go_sem, Nat.reduceEqDiff, Nat.reduceAdd, Nat.reduceSub, Nat.reduceLT, Nat.reduceMul, Nat.reduceBEq, Nat.reduceLeDiff, ↓reduceIte, Int.reduceToNat, Nat.reduceGT, Int.reduceLE, Int.reduceLT, Int.reduceGE, Int.reduceGT, Int.reduceEq, Int.reduceNe, reduceCtorEq, hbk])
          | (refine ⟨rfl, by simp, fun hd => ?_⟩; try simp only [go_sem, Nat.reduceEqDiff, Nat.reduceAdd, Nat.reduceSub, Nat.reduceLT, Nat.reduceMul, Nat.reduceBEq, Nat.reduceLeDiff, ↓reduceIte, Int.reduceToNat, Nat.reduceGT, Int.reduceLE, Int.reduceLT, Int.reduceGE, Int.reduceGT, Int.reduceEq, Int.reduceNe, reduceCtorEq, hbk])
          | (refine append0_by Tryd.k85 Tryd.s9 Tryd.y9 Tryd.z9 rfl (by decide) rfl (Cast.nil 1) rfl (Cast.refl _) (strs_one _) (by simp [maxLen]; omega) (by simp; omega) (by simp [go_sem]) (fun hn' => ?_); try simp only [go_sem, Nat.reduceEqDiff, Nat.reduceAdd, Nat.reduceSub, Nat.reduceLT, Nat.reduceMul, Nat.reduceBEq, Nat.reduceLeDiff, ↓reduceIte, Int.reduceToNat, Nat.reduceGT, Int.reduceLE, Int.reduceLT, Int.reduceGE, Int.reduceGT, Int.reduceEq, Int.reduceNe, reduceCtorEq, hbk])
          | (refine append_at 2 Tryd.k44 Tryd.s121 Tryd.y121 Tryd.z121 rfl (by decide) rfl (by first | exact Cast.refl _ | exact Cast.nil 7) rfl (Cast.refl _) rfl (by first | rfl | exact ones_cls [_]) (by simp [maxLen]; omega) (by simp; omega) (by simp [go_sem]) (fun hC' => ?_); try simp only [go_sem, Nat.reduceEqDiff, Nat.reduceAdd, Nat.reduceSub, Nat.reduceLT, Nat.reduceMul, Nat.reduceBEq, Nat.reduceLeDiff, ↓reduceIte, Int.reduceToNat, Nat.reduceGT, Int.reduceLE, Int.reduceLT, Int.reduceGE, Int.reduceGT, Int.reduceEq, Int.reduceNe, reduceCtorEq, hbk, hwk])
          | (refine append_at 3 Tryd.k44 Tryd.s121 Tryd.y121 Tryd.z121 rfl (by decide) rfl (by first | exact Cast.refl _ | exact Cast.nil 7) rfl (Cast.refl _) rfl (by first | rfl | exact ones_cls [_]) (by simp [maxLen]; omega) (by simp; omega) (by simp [go_sem]) (fun hC' => ?_); try simp only [go_sem, Nat.reduceEqDiff, Nat.reduceAdd, Nat.reduceSub, Nat.reduceLT, Nat.reduceMul, Nat.reduceBEq, Nat.reduceLeDiff, ↓reduceIte, Int.reduceToNat, Nat.reduceGT, Int.reduceLE, Int.reduceLT, Int.reduceGE, Int.reduceGT, Int.reduceEq, Int.reduceNe, reduceCtorEq, hbk, hwk])
          | (with_reducible refine And.intro ?_ ?_)
        all_goals exact ⟨(k + 1, hC', C ++ [.mk hn' c1.names a']), by simp only; omega, ⟨by simp only; omega, by rw [List.map_append, hCk, List.take_add_one, hc1]; simp [bareB_eq, ClauseG.names, ClauseG.body, ha']⟩, le_mkSl rfl ⟨fun i x hi => by
          simp only [go_sem, Nat.reduceEqDiff, Nat.reduceAdd, Nat.reduceSub, Nat.reduceLT, Nat.reduceMul, Nat.reduceBEq, Nat.reduceLeDiff, ↓reduceIte, Int.reduceToNat, Nat.reduceGT, Int.reduceLE, Int.reduceLT, Int.reduceGE, Int.reduceGT, Int.reduceEq, Int.reduceNe, reduceCtorEq] at hi ⊢
          simp only [cpHp, outCs, Hp.setBlk, Hp.setSp] at hi ⊢
          by_cases e3 : i = b3
          · simpa [e3, splice, List.map_append, ClauseG.av, ClauseG.cs_eq, ClauseG.hn, ClauseG.names, ClauseG.body] using hi
          · by_cases e2 : i = b2
            · subst e2; simpa [e3, zeroCs] using hi
            · simpa [e3, e2] using hi, fun _ _ h => h, by
          simp only [go_sem, Nat.reduceEqDiff, Nat.reduceAdd, Nat.reduceSub, Nat.reduceLT, Nat.reduceMul, Nat.reduceBEq, Nat.reduceLeDiff, ↓reduceIte, Int.reduceToNat, Nat.reduceGT, Int.reduceLE, Int.reduceLT, Int.reduceGE, Int.reduceGT, Int.reduceEq, Int.reduceNe, reduceCtorEq, cpHp]
          repeat first | exact List.Sublist.refl _ | apply List.Sublist.cons, fun _ h => h⟩ (by simp [go_sem, hwk])⟩
      · have e0 : k = t.cls.length := by have := of_decide_eq_false b1; omega
        subst e0
        rw [List.take_length] at hCk
        simp only [hbk, hbk2, go_sem, Nat.reduceEqDiff, Nat.reduceAdd, Nat.reduceSub, Nat.reduceLT, Nat.reduceMul, Nat.reduceBEq, Nat.reduceLeDiff, ↓reduceIte, Int.reduceToNat, Nat.reduceGT, Int.reduceLE, Int.reduceLT, Int.reduceGE, Int.reduceGT, Int.reduceEq, Int.reduceNe, reduceCtorEq]
        refine ret_le (hp' := hp) ⟨fun i x hi => ?_, fun _ _ h => h, (List.sublist_cons_self _ _).trans (List.sublist_cons_self _ _), fun _ h => h⟩ ⟨⟨.mk t.op t.n t.name t.ty hA A hC C, rfl, ?_⟩, rfl⟩
        · have e2 : i ≠ b2 := by rintro rfl; rw [hn2] at hi; cases hi
          have e3 : i ≠ b3 := by rintro rfl; rw [hn3] at hi; cases hi
          simpa [cpHp, Hp.setBlk, Hp.setSp, Hp.delBlk, e2, e3] using hi
        · rw [bareT_eq, bareT_eq t]
          show TermG.mk t.op t.n t.name t.ty (.slice none 0 0) (A.map bareT) (.slice none 0 0) (C.map bareB) = _
          rw [hAk, hCk]
end Go.Proofs.YtkoachnlimebaaaDoor
/- The reference of the layer 'term': copies and comparisons of programs. -/
set_option linter.unusedSimpArgs false
set_option linter.unusedVariables false
set_option maxRecDepth 20000
set_option maxHeartbeats 4000000
namespace Go.Proofs.YtkoachnlimebaaaDoor
open Go.AL

theorem sameStrs_calls (ha hb : Value) (a b : List Bytes) (hp : Hp) : ACalls Tryd.prog 41 [strsAV ha a, strsAV hb b] hp (fun r hp' => r = .v (.bool (decide (a = b))) ∧ hp' = hp) := by
  refine acalls_fit (callable_of Tryd.func41 (by decide +kernel)) fun hfit => ?_
  have hl : a.length ≤ maxLen := fit_lst hfit.1
  clear hfit
  refine acalls_of Tryd.func41 rfl (by decide +kernel) (awp_sound (mu := []) _ _ _ ?_)
  simp only [go_sem, Nat.reduceEqDiff, Nat.reduceAdd, Nat.reduceSub, Nat.reduceLT, Nat.reduceMul, Nat.reduceBEq, Nat.reduceLeDiff, ↓reduceIte, Int.reduceToNat, Nat.reduceGT, Int.reduceLE, Int.reduceLT, Int.reduceGE, Int.reduceGT, Int.reduceEq, Int.reduceNe, reduceCtorEq, strsAV]
  refine brK_mk (fun b0 => ?_) (fun b0 => ?_) <;> simp only [go_sem, Nat.reduceEqDiff, Nat.reduceAdd, Nat.reduceSub, Nat.reduceLT, Nat.reduceMul, Nat.reduceBEq, Nat.reduceLeDiff, ↓reduceIte, Int.reduceToNat, Nat.reduceGT, Int.reduceLE, Int.reduceLT, Int.reduceGE, Int.reduceGT, Int.reduceEq, Int.reduceNe, reduceCtorEq, b0]
  · have hab : a.length = b.length := by have := of_decide_eq_true b0; omega
    refine aw_loopX 26 (fun k : Nat => [(0, .lst 1 ha (a.map fun s => .v (.string (bs s)))), (1, .lst 1 hb (b.map fun s => .v (.string (bs s)))), (12, .v (.int .i64 a.length)), (13, .v (.int .i64 k))])
      (fun _ => hp) (fun k => k ≤ a.length ∧ a.take k = b.take k) (fun k => a.length - k) 0 ⟨Nat.zero_le _, rfl⟩ (le_mkSl rfl (Hp.le_refl _) (by simp [go_sem])) ?_
    rintro k ⟨hk, hd⟩
    refine awp_sound (mu := []) _ _ _ ?_
    simp only [go_sem, Nat.reduceEqDiff, Nat.reduceAdd, Nat.reduceSub, Nat.reduceLT, Nat.reduceMul, Nat.reduceBEq, Nat.reduceLeDiff, ↓reduceIte, Int.reduceToNat, Nat.reduceGT, Int.reduceLE, Int.reduceLT, Int.reduceGE, Int.reduceGT, Int.reduceEq, Int.reduceNe, reduceCtorEq]
    refine brK_mk (fun b1 => ?_) (fun b1 => ?_) <;> simp only [go_sem, Nat.reduceEqDiff, Nat.reduceAdd, Nat.reduceSub, Nat.reduceLT, Nat.reduceMul, Nat.reduceBEq, Nat.reduceLeDiff, ↓reduceIte, Int.reduceToNat, Nat.reduceGT, Int.reduceLE, Int.reduceLT, Int.reduceGE, Int.reduceGT, Int.reduceEq, Int.reduceNe, reduceCtorEq, b1]
    · have hk' : k < a.length := by simpa using b1
      obtain ⟨x, hx⟩ := someAt a k hk'
      obtain ⟨y, hy⟩ := someAt b k (by omega)
      have hwu := upK k _ hk' hl
      refine draw_by (mu := []) (fun _ => True) (.take 0 (.take 1 (.take 2 (.take 3 (.take 4 (.take 5 (.take 6 (.take 7 (.take 8 (.done)))))))))) (by decide +kernel) trivial (by decide +kernel) (by decide +kernel) ?_
      simp only [go_sem, Nat.reduceEqDiff, Nat.reduceAdd, Nat.reduceSub, Nat.reduceLT, Nat.reduceMul, Nat.reduceBEq, Nat.reduceLeDiff, ↓reduceIte, Int.reduceToNat, Nat.reduceGT, Int.reduceLE, Int.reduceLT, Int.reduceGE, Int.reduceGT, Int.reduceEq, Int.reduceNe, reduceCtorEq, strAt _ _ _ hx, strAt _ _ _ hy]
      refine brK_mk (fun b2 => ?_) (fun b2 => ?_) <;> simp only [go_sem, Nat.reduceEqDiff, Nat.reduceAdd, Nat.reduceSub, Nat.reduceLT, Nat.reduceMul, Nat.reduceBEq, Nat.reduceLeDiff, ↓reduceIte, Int.reduceToNat, Nat.reduceGT, Int.reduceLE, Int.reduceLT, Int.reduceGE, Int.reduceGT, Int.reduceEq, Int.reduceNe, reduceCtorEq, b2, hwu]
      · have e := of_decide_eq_true b2
        subst e
        exact ⟨k + 1, by omega, ⟨by omega, by rw [List.take_add_one, List.take_add_one, hx, hy, hd]⟩, le_mkSl rfl (Hp.le_refl _) (by simp [go_sem, hwu])⟩
      · have e := of_decide_eq_false b2
        exact ret_same ⟨by rw [decide_eq_false]; rintro rfl; rw [hx] at hy; exact e (Option.some.inj hy), rfl⟩
    · have e : k = a.length := by simp at b1; omega
      subst e
      rw [List.take_length, hab, List.take_length] at hd
      exact ret_same ⟨by rw [decide_eq_true hd], rfl⟩
  · exact ret_same ⟨by rw [decide_eq_false]; rintro rfl; exact of_decide_eq_false b0 rfl, rfl⟩
theorem sameParams_calls (ha hb : Value) (a : List ParamG) (hp : Hp) : ACalls Tryd.prog 27 [paramsAV ha a, paramsAV hb a] hp (fun r hp' => r = .v (.bool true) ∧ hp' = hp) := by
  refine acalls_fit (callable_of Tryd.func27 (by decide +kernel)) fun hfit => ?_
  have hl : a.length ≤ maxLen := fit_lst hfit.1
  clear hfit
  refine acalls_of Tryd.func27 rfl (by decide +kernel) (awp_sound (mu := []) _ _ _ ?_)
  simp only [go_sem, Nat.reduceEqDiff, Nat.reduceAdd, Nat.reduceSub, Nat.reduceLT, Nat.reduceMul, Nat.reduceBEq, Nat.reduceLeDiff, ↓reduceIte, Int.reduceToNat, Nat.reduceGT, Int.reduceLE, Int.reduceLT, Int.reduceGE, Int.reduceGT, Int.reduceEq, Int.reduceNe, reduceCtorEq, paramsAV]
  refine aw_loopX 26 (fun k : Nat => [(0, .lst 2 ha (a.map ParamG.av)), (1, .lst 2 hb (a.map ParamG.av)), (12, .v (.int .i64 a.length)), (13, .v (.int .i64 k))])
    (fun _ => hp) (fun k => k ≤ a.length) (fun k => a.length - k) 0 (Nat.zero_le _) (le_mkSl rfl (Hp.le_refl _) (by simp [go_sem])) ?_
  intro k hk
  refine awp_sound (mu := []) _ _ _ ?_
  simp only [go_sem, Nat.reduceEqDiff, Nat.reduceAdd, Nat.reduceSub, Nat.reduceLT, Nat.reduceMul, Nat.reduceBEq, Nat.reduceLeDiff, ↓reduceIte, Int.reduceToNat, Nat.reduceGT, Int.reduceLE, Int.reduceLT, Int.reduceGE, Int.reduceGT, Int.reduceEq, Int.reduceNe, reduceCtorEq]
  refine brK_mk (fun b1 => ?_) (fun b1 => ?_) <;> simp only [go_sem, Nat.reduceEqDiff, Nat.reduceAdd, Nat.reduceSub, Nat.reduceLT, Nat.reduceMul, Nat.reduceBEq, Nat.reduceLeDiff, ↓reduceIte, Int.reduceToNat, Nat.reduceGT, Int.reduceLE, Int.reduceLT, Int.reduceGE, Int.reduceGT, Int.reduceEq, Int.reduceNe, reduceCtorEq, b1]
  · have hk' : k < a.length := by simpa using b1
    obtain ⟨x, hx⟩ := someAt a k hk'
    have hwu := upK k _ hk' hl
    refine draw_by (mu := []) (fun _ => True) (.take 0 (.take 1 (.take 2 (.take 3 (.take 4 (.take 5 (.take 6 (.take 7 (.take 8 (.done)))))))))) (by decide +kernel) trivial (by decide +kernel) (by decide +kernel) ?_
    simp only [go_sem, Nat.reduceEqDiff, Nat.reduceAdd, Nat.reduceSub, Nat.reduceLT, Nat.reduceMul, Nat.reduceBEq, Nat.reduceLeDiff, ↓reduceIte, Int.reduceToNat, Nat.reduceGT, Int.reduceLE, Int.reduceLT, Int.reduceGE, Int.reduceGT, Int.reduceEq, Int.reduceNe, reduceCtorEq, mapAt ParamG.av _ _ _ hx, ParamG.av, ParamG.cs, hwu]
    exact ⟨k + 1, by omega, by omega, le_mkSl rfl (Hp.le_refl _) (by simp [go_sem, hwu])⟩
  · exact ret_same ⟨rfl, rfl⟩
theorem bare_fields {a b : TermG} (h : bareT a = bareT b) : b.op = a.op ∧ b.n = a.n ∧ b.name = a.name ∧ b.ty = a.ty ∧ b.args.map bareT = a.args.map bareT ∧ b.cls.map bareB = a.cls.map bareB := by
  rw [bareT_eq, bareT_eq b] at h
  injection h with h1 h2 h3 h4 h5 h6 h7 h8
  exact ⟨h1.symm, h2.symm, h3.symm, h4.symm, h6.symm, h8.symm⟩
theorem bare_clause {a b : ClauseG} (h : bareB a = bareB b) : b.names = a.names ∧ bareT a.body = bareT b.body := by
  rw [bareB_eq, bareB_eq b] at h
  injection h with h1 h2 h3
  exact ⟨h2.symm, h3⟩
theorem map_at2 {α β : Type} {f : α → β} {l r : List α} (h : r.map f = l.map f) {k : Nat} {x : α} (hx : l[k]? = some x) : ∃ y, r[k]? = some y ∧ f x = f y := by
  have := congrArg (fun l => l[k]?) h
  simp only [List.getElem?_map, hx, Option.map_some] at this
  cases e : r[k]? with
  | none => rw [e] at this; cases this
  | some y => rw [e] at this; exact ⟨y, rfl, (Option.some.inj this).symm⟩
theorem sameT_calls : ∀ (N : Nat) (a b : TermG), nodesT a ≤ N → N ≤ 5000 → bareT a = bareT b → ∀ (hp : Hp), ACalls Tryd.prog 28 [a.av, b.av] hp (fun r hp' => r = .v (.bool true) ∧ hp' = hp)
  | 0, a, b, hN, _, _, _ => by have := nodesT_pos a; omega
  | N + 1, a, b, hN, hN2, hab, hp => by
    have hrec := sameT_calls N
    obtain ⟨e1, e2, e3, e4, e5, e6⟩ := bare_fields hab
    have l5 : b.args.length = a.args.length := by have := congrArg List.length e5; simpa using this
    have l6 : b.cls.length = a.cls.length := by have := congrArg List.length e6; simpa using this
    have hnt := nodesT_eq a
    have hlA := argsN_len a.args
    have hlC := clsN_len a.cls
    refine acalls_of Tryd.func28 rfl (by decide +kernel) (awp_sound (mu := []) _ _ _ ?_)
    simp only [go_sem, Nat.reduceEqDiff, Nat.reduceAdd, Nat.reduceSub, Nat.reduceLT, Nat.reduceMul, Nat.reduceBEq, Nat.reduceLeDiff, ↓reduceIte, Int.reduceToNat, Nat.reduceGT, Int.reduceLE, Int.reduceLT, Int.reduceGE, Int.reduceGT, Int.reduceEq, Int.reduceNe, reduceCtorEq, TermG.av, TermG.cs_eq, e1, e2, e3, e4, l5, l6]
    intro q2 q3
    refine aw_loopX 107 (fun k : Nat => [(2, .ref q2 [.v (.int .i64 a.op), .v (.int .i64 a.n), .v (.string (bs a.name)), .v (.int .i64 a.ty), .lst 6 a.ha (a.args.map TermG.av), .lst 7 a.hc (a.cls.map ClauseG.av)]), (3, .ref q3 [.v (.int .i64 a.op), .v (.int .i64 a.n), .v (.string (bs a.name)), .v (.int .i64 a.ty), .lst 6 b.ha (b.args.map TermG.av), .lst 7 b.hc (b.cls.map ClauseG.av)]), (53, .v (.int .i64 a.args.length)), (54, .v (.int .i64 k))])
      (fun _ => hp) (fun k => k ≤ a.args.length) (fun k => a.args.length - k) 0 (Nat.zero_le _) (le_mkSl rfl (Hp.le_refl _) (by simp [go_sem])) ?_
    intro k hk
    refine awp_sound (mu := []) _ _ _ ?_
    simp only [go_sem, Nat.reduceEqDiff, Nat.reduceAdd, Nat.reduceSub, Nat.reduceLT, Nat.reduceMul, Nat.reduceBEq, Nat.reduceLeDiff, ↓reduceIte, Int.reduceToNat, Nat.reduceGT, Int.reduceLE, Int.reduceLT, Int.reduceGE, Int.reduceGT, Int.reduceEq, Int.reduceNe, reduceCtorEq]
    refine brK_mk (fun b1 => ?_) (fun b1 => ?_) <;> simp only [go_sem, Nat.reduceEqDiff, Nat.reduceAdd, Nat.reduceSub, Nat.reduceLT, Nat.reduceMul, Nat.reduceBEq, Nat.reduceLeDiff, ↓reduceIte, Int.reduceToNat, Nat.reduceGT, Int.reduceLE, Int.reduceLT, Int.reduceGE, Int.reduceGT, Int.reduceEq, Int.reduceNe, reduceCtorEq, b1]
    · have hk' : k < a.args.length := by simpa using b1
      obtain ⟨x, hx⟩ := someAt a.args k hk'
      obtain ⟨y, hy, hxy⟩ := map_at2 e5 hx
      have hlt := args_lt (List.mem_of_getElem? hx)
      have hwu : IntKind.i64.wrap ((k : Int) + 1) = ((k + 1 : Nat) : Int) := IntWalk.i64_in _ (by omega)
      refine draw_by (mu := []) (fun _ => True) (.take 0 (.take 1 (.take 2 (.take 3 (.take 4 (.take 5 (.take 6 (.take 7 (.take 8 (.take 9 (.br 10 (.take 11 (.done)) (.stop)))))))))))) (by decide +kernel) trivial (by decide +kernel) (by decide +kernel) ?_
      simp only [go_sem, Nat.reduceEqDiff, Nat.reduceAdd, Nat.reduceSub, Nat.reduceLT, Nat.reduceMul, Nat.reduceBEq, Nat.reduceLeDiff, ↓reduceIte, Int.reduceToNat, Nat.reduceGT, Int.reduceLE, Int.reduceLT, Int.reduceGE, Int.reduceGT, Int.reduceEq, Int.reduceNe, reduceCtorEq, mapAt TermG.av _ _ _ hx, mapAt TermG.av _ _ _ hy, TermG.av, TermG.cs_eq]
      have c := fun hp => hrec x y (by omega) (by omega) hxy hp
      simp only [TermG.av, TermG.cs_eq] at c
      refine callX_by (c _) ?_
      rintro r hp1 ⟨rfl, rfl⟩
      simp only [go_sem, Nat.reduceEqDiff, Nat.reduceAdd, Nat.reduceSub, Nat.reduceLT, Nat.reduceMul, Nat.reduceBEq, Nat.reduceLeDiff, ↓reduceIte, Int.reduceToNat, Nat.reduceGT, Int.reduceLE, Int.reduceLT, Int.reduceGE, Int.reduceGT, Int.reduceEq, Int.reduceNe, reduceCtorEq, hwu]
      exact ⟨k + 1, by omega, by omega, le_mkSl rfl (Hp.le_refl _) (by simp [go_sem, hwu])⟩
    · refine aw_loopX 107 (fun k : Nat => [(2, .ref q2 [.v (.int .i64 a.op), .v (.int .i64 a.n), .v (.string (bs a.name)), .v (.int .i64 a.ty), .lst 6 a.ha (a.args.map TermG.av), .lst 7 a.hc (a.cls.map ClauseG.av)]), (3, .ref q3 [.v (.int .i64 a.op), .v (.int .i64 a.n), .v (.string (bs a.name)), .v (.int .i64 a.ty), .lst 6 b.ha (b.args.map TermG.av), .lst 7 b.hc (b.cls.map ClauseG.av)]), (72, .v (.int .i64 a.cls.length)), (73, .v (.int .i64 k))])
        (fun _ => hp) (fun k => k ≤ a.cls.length) (fun k => a.cls.length - k) 0 (Nat.zero_le _) (le_mkSl rfl (Hp.le_refl _) (by simp [go_sem])) ?_
      intro k hk
      refine awp_sound (mu := []) _ _ _ ?_
      simp only [go_sem, Nat.reduceEqDiff, Nat.reduceAdd, Nat.reduceSub, Nat.reduceLT, Nat.reduceMul, Nat.reduceBEq, Nat.reduceLeDiff, ↓reduceIte, Int.reduceToNat, Nat.reduceGT, Int.reduceLE, Int.reduceLT, Int.reduceGE, Int.reduceGT, Int.reduceEq, Int.reduceNe, reduceCtorEq]
      refine brK_mk (fun b1 => ?_) (fun b1 => ?_) <;> simp only [go_sem, Nat.reduceEqDiff, Nat.reduceAdd, Nat.reduceSub, Nat.reduceLT, Nat.reduceMul, Nat.reduceBEq, Nat.reduceLeDiff, ↓reduceIte, Int.reduceToNat, Nat.reduceGT, Int.reduceLE, Int.reduceLT, Int.reduceGE, Int.reduceGT, Int.reduceEq, Int.reduceNe, reduceCtorEq, b1]
      · have hk' : k < a.cls.length := by simpa using b1
        obtain ⟨x, hx⟩ := someAt a.cls k hk'
        obtain ⟨y, hy, hxy⟩ := map_at2 e6 hx
        obtain ⟨en, eb⟩ := bare_clause hxy
        have hlt := cls_lt (List.mem_of_getElem? hx)
        have hwu : IntKind.i64.wrap ((k : Int) + 1) = ((k + 1 : Nat) : Int) := IntWalk.i64_in _ (by omega)
        refine draw_by (mu := []) (fun _ => True) (.take 0 (.take 1 (.take 2 (.take 3 (.take 4 (.take 5 (.take 6 (.take 7 (.take 8 (.take 9 (.take 10 (.take 11 (.br 12 (.take 13 (.take 14 (.take 15 (.take 16 (.take 17 (.take 18 (.take 19 (.take 20 (.take 21 (.take 22 (.take 23 (.take 24 (.take 25 (.take 26 (.br 27 (.take 28 (.take 29 (.done))) (.stop)))))))))))))))) (.stop)))))))))))))) (by decide +kernel) trivial (by decide +kernel) (by decide +kernel) ?_
        simp only [go_sem, Nat.reduceEqDiff, Nat.reduceAdd, Nat.reduceSub, Nat.reduceLT, Nat.reduceMul, Nat.reduceBEq, Nat.reduceLeDiff, ↓reduceIte, Int.reduceToNat, Nat.reduceGT, Int.reduceLE, Int.reduceLT, Int.reduceGE, Int.reduceGT, Int.reduceEq, Int.reduceNe, reduceCtorEq, mapAt ClauseG.av _ _ _ hx, mapAt ClauseG.av _ _ _ hy, ClauseG.av, ClauseG.cs_eq, en]
        have c := fun hp => sameStrs_calls x.hn y.hn x.names x.names hp
        simp only [strsAV] at c
        refine callX_by (c _) ?_
        clear c
        rintro r hp1 ⟨rfl, rfl⟩
        simp only [go_sem, Nat.reduceEqDiff, Nat.reduceAdd, Nat.reduceSub, Nat.reduceLT, Nat.reduceMul, Nat.reduceBEq, Nat.reduceLeDiff, ↓reduceIte, Int.reduceToNat, Nat.reduceGT, Int.reduceLE, Int.reduceLT, Int.reduceGE, Int.reduceGT, Int.reduceEq, Int.reduceNe, reduceCtorEq, mapAt ClauseG.av _ _ _ hx, mapAt ClauseG.av _ _ _ hy, ClauseG.av, ClauseG.cs_eq, en]
        have c := fun hp => hrec x.body y.body (by omega) (by omega) eb hp
        simp only [TermG.av, TermG.cs_eq] at c
        refine callX_by (c _) ?_
        rintro r hp1 ⟨rfl, rfl⟩
        simp only [go_sem, Nat.reduceEqDiff, Nat.reduceAdd, Nat.reduceSub, Nat.reduceLT, Nat.reduceMul, Nat.reduceBEq, Nat.reduceLeDiff, ↓reduceIte, Int.reduceToNat, Nat.reduceGT, Int.reduceLE, Int.reduceLT, Int.reduceGE, Int.reduceGT, Int.reduceEq, Int.reduceNe, reduceCtorEq, hwu]
        exact ⟨k + 1, by omega, by omega, le_mkSl rfl (Hp.le_refl _) (by simp [go_sem, hwu])⟩
      · exact ret_same ⟨rfl, rfl⟩
def FunG.bare (f : FunG) : Bytes × List ParamG × Int × TermG := (f.name, f.params, f.res, bareT f.body)
structure SameP (p q : ProgG) : Prop where
  ds : q.ds.map DeclG.bare = p.ds.map DeclG.bare
  fs : q.fs.map FunG.bare = p.fs.map FunG.bare
end Go.Proofs.YtkoachnlimebaaaDoor
/- The reference of the layer 'term': CopyProg and SameProg. -/
set_option linter.unusedSimpArgs false
set_option linter.unusedVariables false
set_option maxRecDepth 20000
set_option maxHeartbeats 4000000
namespace Go.Proofs.YtkoachnlimebaaaDoor
open Go.AL

theorem ones_pars (l : List ParamG) : ((l.map ParamG.av).flatMap AV.cells).all AV.one = true := by
  induction l with
  | nil => rfl
  | cons a l ih => rw [List.map_cons, List.flatMap_cons, List.all_append, ih]; rfl
theorem copyFit_of {p : ProgG} (h : p.small) : CopyFit p.ds := by
  have hR : reachBytes = 140737488351232 := rfl
  refine ⟨by have := h.dl; omega, fun d hd => ?_, fun d hd x hx => ?_⟩
  · have := (h.ds d hd).1; omega
  · have : x.args.length * 16 ≤ reachBytes := (h.ds d hd).2 x hx; omega
theorem ones_funs (l : List FunG) : ((l.map FunG.av).flatMap AV.cells).all AV.one = true := by
  induction l with
  | nil => rfl
  | cons a l ih =>
    rw [List.map_cons, List.flatMap_cons, List.all_append, ih, FunG.av]; rfl
def pZero : List AV := [.v (.slice none 0 0), .v (.slice none 0 0)]
def pOut (h : Value) (ds : List DeclG) (hf : Value) (fs : List FunG) : List AV := [declsAV h ds, funsAV hf fs]
def cqHp (hp : Hp) (b2 b3 : Nat) (h : Value) (ds : List DeclG) (hf : Value) (fs : List FunG) : Hp := ((hp.setSp ((48, 9, hf) :: hp.sp)).setBlk b2 25 pZero).setBlk b3 25 (pOut h ds hf fs)
theorem copyProg_calls (p : ProgG) (hsm : p.small) (hlen : p.fs.length ≤ 40) (hno : ∀ f ∈ p.fs, nodesT f.body ≤ 5000) (hp : Hp) : ACalls Tryd.prog 10 [p.av] hp (fun r hp' => (∃ q : ProgG, r = q.av ∧ SameP p q) ∧ hp' = hp) := by
  refine acalls_addNil 48 9 ?_
  refine acalls_of Tryd.func10 rfl (by decide +kernel) (awp_sound (mu := [3, 32]) _ _ _ ?_)
  simp only [go_sem, Nat.reduceEqDiff, Nat.reduceAdd, Nat.reduceSub, Nat.reduceLT, Nat.reduceMul, Nat.reduceBEq, Nat.reduceLeDiff, ↓reduceIte, Int.reduceToNat, Nat.reduceGT, Int.reduceLE, Int.reduceLT, Int.reduceGE, Int.reduceGT, Int.reduceEq, Int.reduceNe, reduceCtorEq, ProgG.av, ProgG.cs, declsAV, funsAV]
  intro q1 b2 hb2
  have hn2 : hp.blk b2 = none := hb2.1
  have c := fun hp => copy_calls p.hd p.ds (copyFit_of hsm) hp
  simp only [declsAV] at c
  refine callX_by (c _) ?_
  clear c
  rintro r hp1 ⟨hD, D, rfl, hDD, rfl⟩
  simp only [go_sem, Nat.reduceEqDiff, Nat.reduceAdd, Nat.reduceSub, Nat.reduceLT, Nat.reduceMul, Nat.reduceBEq, Nat.reduceLeDiff, ↓reduceIte, Int.reduceToNat, Nat.reduceGT, Int.reduceLE, Int.reduceLT, Int.reduceGE, Int.reduceGT, Int.reduceEq, Int.reduceNe, reduceCtorEq, spD, declsAV]
  intro b3 hb3
  have hne : b3 ≠ b2 := by rintro rfl; have := hb3.1; simp [Hp.setBlk, Hp.setSp] at this
  have hn3 : hp.blk b3 = none := by have := hb3.1; simpa [Hp.setBlk, Hp.setSp, hne] using this
  refine castBlk_by b3 25 [.lst 3 hD (D.map DeclG.av), .v (.slice none 0 0)] (pOut hD D (.slice none 0 0) []) (by simp [Hp.setBlk, St.setHp, go_sem]) rfl
    (fun m h => ⟨h.1, (Cast.nil 9).2 m trivial, trivial⟩) ?_
  refine aw_loopX 35 (fun x : Nat × Value × List FunG => [(1, .ref q1 [.lst 3 p.hd (p.ds.map DeclG.av), .lst 9 p.hf (p.fs.map FunG.av)]), (2, .v (.pointer (some ⟨b2, 0, none⟩))), (3, .v (.pointer (some ⟨b3, 0, none⟩))), (11, .lst 9 p.hf (p.fs.map FunG.av)), (12, .v (.int .i64 p.fs.length)), (13, .v (.int .i64 x.1))])
    (fun x => cqHp hp b2 b3 hD D x.2.1 x.2.2) (fun x => x.1 ≤ p.fs.length ∧ x.2.2.map FunG.bare = (p.fs.take x.1).map FunG.bare) (fun x => p.fs.length - x.1) (0, .slice none 0 0, []) ⟨Nat.zero_le _, rfl⟩
    (le_mkSl rfl ⟨fun i x hi => by
      simp only [go_sem, Nat.reduceEqDiff, Nat.reduceAdd, Nat.reduceSub, Nat.reduceLT, Nat.reduceMul, Nat.reduceBEq, Nat.reduceLeDiff, ↓reduceIte, Int.reduceToNat, Nat.reduceGT, Int.reduceLE, Int.reduceLT, Int.reduceGE, Int.reduceGT, Int.reduceEq, Int.reduceNe, reduceCtorEq] at hi ⊢
      simp only [cqHp, Hp.setBlk, Hp.setSp] at hi ⊢
      by_cases e3 : i = b3
      · simpa [e3] using hi
      · by_cases e2 : i = b2
        · subst e2; simpa [e3, pZero] using hi
        · simpa [e3, e2] using hi, fun _ _ h => h, List.sublist_cons_self _ _, fun _ h => h⟩ (by simp [go_sem])) ?_
  rintro ⟨k, hF, F⟩ ⟨hk, hFk⟩
  simp only at hk hFk
  have hFl : F.length = k := by have := congrArg List.length hFk; simp at this; omega
  have hbk : (cqHp hp b2 b3 hD D hF F).blk b3 = some (25, pOut hD D hF F) := by simp [cqHp, Hp.setBlk]
  simp only [pOut, declsAV, funsAV] at hbk
  have hbk2 : (cqHp hp b2 b3 hD D hF F).blk b2 = some (25, pZero) := by simp [cqHp, Hp.setBlk, Ne.symm hne]
  simp only [pZero] at hbk2
  refine awp_sound (mu := [3, 32]) _ _ _ ?_
  simp only [go_sem, Nat.reduceEqDiff, Nat.reduceAdd, Nat.reduceSub, Nat.reduceLT, Nat.reduceMul, Nat.reduceBEq, Nat.reduceLeDiff, ↓reduceIte, Int.reduceToNat, Nat.reduceGT, Int.reduceLE, Int.reduceLT, Int.reduceGE, Int.reduceGT, Int.reduceEq, Int.reduceNe, reduceCtorEq]
  refine brK_mk (fun b1 => ?_) (fun b1 => ?_) <;> simp only [go_sem, Nat.reduceEqDiff, Nat.reduceAdd, Nat.reduceSub, Nat.reduceLT, Nat.reduceMul, Nat.reduceBEq, Nat.reduceLeDiff, ↓reduceIte, Int.reduceToNat, Nat.reduceGT, Int.reduceLE, Int.reduceLT, Int.reduceGE, Int.reduceGT, Int.reduceEq, Int.reduceNe, reduceCtorEq, b1]
  · have hk' : k < p.fs.length := by simpa using b1
    obtain ⟨f, hf⟩ := someAt p.fs k hk'
    have hmem := List.mem_of_getElem? hf
    have hpl := (hsm.fs f hmem).ps
    have hfb := (hsm.fs f hmem).body
    have hfn := hno f hmem
    have hR : reachBytes = 140737488351232 := rfl
    have hwk : IntKind.i64.wrap ((k : Int) + 1) = ((k + 1 : Nat) : Int) := IntWalk.i64_in _ (by omega)
    simp only [go_sem, Nat.reduceEqDiff, Nat.reduceAdd, Nat.reduceSub, Nat.reduceLT, Nat.reduceMul, Nat.reduceBEq, Nat.reduceLeDiff, ↓reduceIte, Int.reduceToNat, Nat.reduceGT, Int.reduceLE, Int.reduceLT, Int.reduceGE, Int.reduceGT, Int.reduceEq, Int.reduceNe, reduceCtorEq, mapAt FunG.av _ _ _ hf, FunG.av, FunG.cs, paramsAV]
    intro v hv
    have hdv := fun T cs => Hp.del_set _ _ T cs hv.1
    simp only [hdv]
    refine draw_by (mu := [3, 32]) (fun _ => True) (.take 0 (.take 2 (.take 3 (.take 4 (.take 5 (.take 7 (.take 8 (.take 9 (.take 10 (.br 1 (.br 6 (.br 11 (.br 12 (.br 13 (.br 14 (.take 15 (.br 16 (.done) (.stop))) (.stop)) (.stop)) (.stop)) (.stop)) (.stop)) (.br 6 (.br 1 (.br 11 (.br 12 (.br 13 (.br 14 (.take 15 (.br 16 (.done) (.stop))) (.stop)) (.stop)) (.stop)) (.stop)) (.br 11 (.br 1 (.br 12 (.br 13 (.br 14 (.take 15 (.br 16 (.done) (.stop))) (.stop)) (.stop)) (.stop)) (.br 12 (.br 1 (.br 13 (.br 14 (.take 15 (.br 16 (.done) (.stop))) (.stop)) (.stop)) (.br 13 (.br 1 (.br 14 (.take 15 (.br 16 (.done) (.stop))) (.stop)) (.stop)) (.stop))) (.stop))) (.stop))) (.stop)))))))))))) (by decide +kernel) trivial (by decide +kernel) (by decide +kernel) ?_
    simp only [go_sem, Nat.reduceEqDiff, Nat.reduceAdd, Nat.reduceSub, Nat.reduceLT, Nat.reduceMul, Nat.reduceBEq, Nat.reduceLeDiff, ↓reduceIte, Int.reduceToNat, Nat.reduceGT, Int.reduceLE, Int.reduceLT, Int.reduceGE, Int.reduceGT, Int.reduceEq, Int.reduceNe, reduceCtorEq, hbk]
    have c := fun hp => copyT_calls (nodesT f.body) f.body (Nat.le_refl _) hfn hfb hp
    simp only [TermG.av, TermG.cs_eq] at c
    repeat' first
      | with_reducible exact trivial
      | (refine callX_by (c _) ?_; rintro r hp1 ⟨⟨a', rfl, ha'⟩, rfl⟩; try simp only [go_sem, Nat.reduceEqDiff, Nat.reduceAdd, Nat.reduceSub, Nat.reduceLT, Nat.reduceMul, Nat.reduceBEq, Nat.reduceLeDiff, ↓reduceIte, Int.reduceToNat, Nat.reduceGT, Int.reduceLE, Int.reduceLT, Int.reduceGE, Int.reduceGT, Int.reduceEq, Int.reduceNe, reduceCtorEq, hbk])
      | (refine ⟨rfl, by simp, fun hd => ?_⟩; try simp only [go_sem, Nat.reduceEqDiff, Nat.reduceAdd, Nat.reduceSub, Nat.reduceLT, Nat.reduceMul, Nat.reduceBEq, Nat.reduceLeDiff, ↓reduceIte, Int.reduceToNat, Nat.reduceGT, Int.reduceLE, Int.reduceLT, Int.reduceGE, Int.reduceGT, Int.reduceEq, Int.reduceNe, reduceCtorEq, hbk])
      | (refine append0_by Tryd.k42 Tryd.s59 Tryd.y59 Tryd.z59 rfl (by decide) rfl (Cast.nil 2) rfl (Cast.refl _) (ones_pars _) (by simp [maxLen]; omega) (by simp; omega) (by simp [go_sem]) (fun hn' => ?_); try simp only [go_sem, Nat.reduceEqDiff, Nat.reduceAdd, Nat.reduceSub, Nat.reduceLT, Nat.reduceMul, Nat.reduceBEq, Nat.reduceLeDiff, ↓reduceIte, Int.reduceToNat, Nat.reduceGT, Int.reduceLE, Int.reduceLT, Int.reduceGE, Int.reduceGT, Int.reduceEq, Int.reduceNe, reduceCtorEq, hbk])
      | (refine append_at 2 Tryd.k23 Tryd.s48 Tryd.y48 Tryd.z48 rfl (by decide) rfl (by first | exact Cast.refl _ | exact Cast.nil 9) rfl (Cast.refl _) rfl (by first | rfl | exact ones_funs [_]) (by simp [maxLen]; omega) (by simp; omega) (by simp [go_sem]) (fun hC' => ?_); try simp only [go_sem, Nat.reduceEqDiff, Nat.reduceAdd, Nat.reduceSub, Nat.reduceLT, Nat.reduceMul, Nat.reduceBEq, Nat.reduceLeDiff, ↓reduceIte, Int.reduceToNat, Nat.reduceGT, Int.reduceLE, Int.reduceLT, Int.reduceGE, Int.reduceGT, Int.reduceEq, Int.reduceNe, reduceCtorEq, hbk, hwk])
      | (refine append_at 1 Tryd.k23 Tryd.s48 Tryd.y48 Tryd.z48 rfl (by decide) rfl (by first | exact Cast.refl _ | exact Cast.nil 9) rfl (Cast.refl _) rfl (by first | rfl | exact ones_funs [_]) (by simp [maxLen]; omega) (by simp; omega) (by simp [go_sem]) (fun hC' => ?_); try simp only [go_sem, Nat.reduceEqDiff, Nat.reduceAdd, Nat.reduceSub, Nat.reduceLT, Nat.reduceMul, Nat.reduceBEq, Nat.reduceLeDiff, ↓reduceIte, Int.reduceToNat, Nat.reduceGT, Int.reduceLE, Int.reduceLT, Int.reduceGE, Int.reduceGT, Int.reduceEq, Int.reduceNe, reduceCtorEq, hbk, hwk])
      | (with_reducible refine And.intro ?_ ?_)
    all_goals
      exact ⟨(k + 1, hC', F ++ [⟨f.name, hn', f.params, f.res, a'⟩]), by simp only; omega, ⟨by simp only; omega, by rw [List.map_append, hFk, List.take_add_one, hf]; simp [FunG.bare, ha']⟩, le_mkSl rfl ⟨fun i x hi => by
        simp only [go_sem, Nat.reduceEqDiff, Nat.reduceAdd, Nat.reduceSub, Nat.reduceLT, Nat.reduceMul, Nat.reduceBEq, Nat.reduceLeDiff, ↓reduceIte, Int.reduceToNat, Nat.reduceGT, Int.reduceLE, Int.reduceLT, Int.reduceGE, Int.reduceGT, Int.reduceEq, Int.reduceNe, reduceCtorEq] at hi ⊢
        simp only [cqHp, pOut, declsAV, funsAV, Hp.setBlk, Hp.setSp] at hi ⊢
        by_cases e3 : i = b3
        · simpa [e3, splice, List.map_append, FunG.av, FunG.cs, paramsAV] using hi
        · by_cases e2 : i = b2
          · subst e2; simpa [e3, pZero] using hi
          · simpa [e3, e2] using hi, fun _ _ h => h, by
        simp only [go_sem, Nat.reduceEqDiff, Nat.reduceAdd, Nat.reduceSub, Nat.reduceLT, Nat.reduceMul, Nat.reduceBEq, Nat.reduceLeDiff, ↓reduceIte, Int.reduceToNat, Nat.reduceGT, Int.reduceLE, Int.reduceLT, Int.reduceGE, Int.reduceGT, Int.reduceEq, Int.reduceNe, reduceCtorEq, cqHp]
        repeat first | exact List.Sublist.refl _ | apply List.Sublist.cons, fun _ h => h⟩ (by simp [go_sem, hwk])⟩
  · have e0 : k = p.fs.length := by have := of_decide_eq_false b1; omega
    subst e0
    rw [List.take_length] at hFk
    simp only [hbk, hbk2, go_sem, Nat.reduceEqDiff, Nat.reduceAdd, Nat.reduceSub, Nat.reduceLT, Nat.reduceMul, Nat.reduceBEq, Nat.reduceLeDiff, ↓reduceIte, Int.reduceToNat, Nat.reduceGT, Int.reduceLE, Int.reduceLT, Int.reduceGE, Int.reduceGT, Int.reduceEq, Int.reduceNe, reduceCtorEq]
    refine ret_le (hp' := hp) ⟨fun i x hi => ?_, fun _ _ h => h, List.sublist_cons_self _ _, fun _ h => h⟩ ⟨⟨⟨hD, D, hF, F⟩, rfl, ⟨hDD, hFk⟩⟩, rfl⟩
    have e2 : i ≠ b2 := by rintro rfl; rw [hn2] at hi; cases hi
    have e3 : i ≠ b3 := by rintro rfl; rw [hn3] at hi; cases hi
    simpa [cqHp, Hp.setBlk, Hp.setSp, Hp.delBlk, e2, e3] using hi
theorem sameProg_calls (a b : ProgG) (h : SameP a b) (hlen : a.fs.length ≤ 40) (hno : ∀ f ∈ a.fs, nodesT f.body ≤ 5000) (hp : Hp) : ACalls Tryd.prog 12 [a.av, b.av] hp (fun r hp' => r = .v (.bool true) ∧ hp' = hp) := by
  have l1 : b.fs.length = a.fs.length := by have := congrArg List.length h.fs; simpa using this
  refine acalls_of Tryd.func12 rfl (by decide +kernel) (awp_sound (mu := []) _ _ _ ?_)
  simp only [go_sem, Nat.reduceEqDiff, Nat.reduceAdd, Nat.reduceSub, Nat.reduceLT, Nat.reduceMul, Nat.reduceBEq, Nat.reduceLeDiff, ↓reduceIte, Int.reduceToNat, Nat.reduceGT, Int.reduceLE, Int.reduceLT, Int.reduceGE, Int.reduceGT, Int.reduceEq, Int.reduceNe, reduceCtorEq, ProgG.av, ProgG.cs, declsAV, funsAV]
  intro q1 q2
  have c := fun hp => same_calls a.hd b.hd a.ds b.ds h.ds.symm hp
  simp only [declsAV] at c
  refine callX_by (c _) ?_
  clear c
  rintro r hp1 ⟨rfl, rfl⟩
  simp only [go_sem, Nat.reduceEqDiff, Nat.reduceAdd, Nat.reduceSub, Nat.reduceLT, Nat.reduceMul, Nat.reduceBEq, Nat.reduceLeDiff, ↓reduceIte, Int.reduceToNat, Nat.reduceGT, Int.reduceLE, Int.reduceLT, Int.reduceGE, Int.reduceGT, Int.reduceEq, Int.reduceNe, reduceCtorEq, l1]
  refine aw_loopX 65 (fun k : Nat => [(2, .ref q1 [.lst 3 a.hd (a.ds.map DeclG.av), .lst 9 a.hf (a.fs.map FunG.av)]), (3, .ref q2 [.lst 3 b.hd (b.ds.map DeclG.av), .lst 9 b.hf (b.fs.map FunG.av)]), (24, .lst 9 a.hf (a.fs.map FunG.av)), (25, .v (.int .i64 a.fs.length)), (26, .v (.int .i64 k))])
    (fun _ => hp1) (fun k => k ≤ a.fs.length) (fun k => a.fs.length - k) 0 (Nat.zero_le _) (le_mkSl rfl (Hp.le_refl _) (by simp [go_sem])) ?_
  intro k hk
  refine awp_sound (mu := []) _ _ _ ?_
  simp only [go_sem, Nat.reduceEqDiff, Nat.reduceAdd, Nat.reduceSub, Nat.reduceLT, Nat.reduceMul, Nat.reduceBEq, Nat.reduceLeDiff, ↓reduceIte, Int.reduceToNat, Nat.reduceGT, Int.reduceLE, Int.reduceLT, Int.reduceGE, Int.reduceGT, Int.reduceEq, Int.reduceNe, reduceCtorEq]
  refine brK_mk (fun b1 => ?_) (fun b1 => ?_) <;> simp only [go_sem, Nat.reduceEqDiff, Nat.reduceAdd, Nat.reduceSub, Nat.reduceLT, Nat.reduceMul, Nat.reduceBEq, Nat.reduceLeDiff, ↓reduceIte, Int.reduceToNat, Nat.reduceGT, Int.reduceLE, Int.reduceLT, Int.reduceGE, Int.reduceGT, Int.reduceEq, Int.reduceNe, reduceCtorEq, b1]
  · have hk' : k < a.fs.length := by simpa using b1
    obtain ⟨x, hx⟩ := someAt a.fs k hk'
    obtain ⟨y, hy, hxy⟩ := map_at2 h.fs hx
    simp only [FunG.bare, Prod.mk.injEq] at hxy
    obtain ⟨e1, e2, e3, e4⟩ := hxy
    have hfn := hno x (List.mem_of_getElem? hx)
    have hwk : IntKind.i64.wrap ((k : Int) + 1) = ((k + 1 : Nat) : Int) := IntWalk.i64_in _ (by omega)
    simp only [go_sem, Nat.reduceEqDiff, Nat.reduceAdd, Nat.reduceSub, Nat.reduceLT, Nat.reduceMul, Nat.reduceBEq, Nat.reduceLeDiff, ↓reduceIte, Int.reduceToNat, Nat.reduceGT, Int.reduceLE, Int.reduceLT, Int.reduceGE, Int.reduceGT, Int.reduceEq, Int.reduceNe, reduceCtorEq, mapAt FunG.av _ _ _ hx, mapAt FunG.av _ _ _ hy, FunG.av, FunG.cs, paramsAV]
    intro v hv
    have hdv := fun T cs => Hp.del_set _ _ T cs hv.1
    simp only [hdv]
    intro v2 hv2
    have hdv2 := fun T cs => Hp.del_set _ _ T cs hv2.1
    simp only [hdv2, ← e1, ← e2, ← e3]
    simp only [go_sem, Nat.reduceEqDiff, Nat.reduceAdd, Nat.reduceSub, Nat.reduceLT, Nat.reduceMul, Nat.reduceBEq, Nat.reduceLeDiff, ↓reduceIte, Int.reduceToNat, Nat.reduceGT, Int.reduceLE, Int.reduceLT, Int.reduceGE, Int.reduceGT, Int.reduceEq, Int.reduceNe, reduceCtorEq, ← e1, ← e2, ← e3, hdv, hdv2]
    have c := fun hp => sameParams_calls x.hp y.hp x.params hp
    simp only [paramsAV] at c
    refine callX_by (c _) ?_
    clear c
    rintro r hp2 ⟨rfl, rfl⟩
    simp only [go_sem, Nat.reduceEqDiff, Nat.reduceAdd, Nat.reduceSub, Nat.reduceLT, Nat.reduceMul, Nat.reduceBEq, Nat.reduceLeDiff, ↓reduceIte, Int.reduceToNat, Nat.reduceGT, Int.reduceLE, Int.reduceLT, Int.reduceGE, Int.reduceGT, Int.reduceEq, Int.reduceNe, reduceCtorEq]
    have c := fun hp => sameT_calls (nodesT x.body) x.body y.body (Nat.le_refl _) hfn e4 hp
    simp only [TermG.av, TermG.cs_eq] at c
    refine callX_by (c _) ?_
    rintro r hp3 ⟨rfl, rfl⟩
    simp only [go_sem, Nat.reduceEqDiff, Nat.reduceAdd, Nat.reduceSub, Nat.reduceLT, Nat.reduceMul, Nat.reduceBEq, Nat.reduceLeDiff, ↓reduceIte, Int.reduceToNat, Nat.reduceGT, Int.reduceLE, Int.reduceLT, Int.reduceGE, Int.reduceGT, Int.reduceEq, Int.reduceNe, reduceCtorEq, hwk]
    exact ⟨k + 1, by omega, by omega, le_mkSl rfl (by simp only [go_sem, Nat.reduceEqDiff, Nat.reduceAdd, Nat.reduceSub, Nat.reduceLT, Nat.reduceMul, Nat.reduceBEq, Nat.reduceLeDiff, ↓reduceIte, Int.reduceToNat, Nat.reduceGT, Int.reduceLE, Int.reduceLT, Int.reduceGE, Int.reduceGT, Int.reduceEq, Int.reduceNe, reduceCtorEq, hdv, hdv2]; exact Hp.le_refl _) (by simp [go_sem, hwk])⟩
  · exact ret_same ⟨rfl, rfl⟩
end Go.Proofs.YtkoachnlimebaaaDoor
