/- The layer 'term': validity, with what is left of the nodes. -/
import Derived.Test.YtkoachnlimebaaaGreatDoorCT4
set_option linter.unusedSimpArgs false
set_option linter.unusedVariables false
set_option maxRecDepth 20000
set_option maxHeartbeats 4000000
namespace Go.Proofs.YtkoachnlimebaaaGreatDoor
open Go.AL

def ProgG.pf (p : ProgG) : List Nat := p.fs.map fun f => f.params.length
def ptrAV (b : Nat) : AV := .v (.pointer (some ⟨b, 0, none⟩))
def leftHp (hp : Hp) (lb : Nat) (n : Int) : Hp := hp.setBlk lb 3 [.v (.int .i64 n)]
def okB (left deep : Int) (nodes depth : Nat) (v : Bool) : Bool := decide ((nodes : Int) ≤ left) && (decide (deep + (depth : Int) ≤ 25) && v)
def ResR (hp : Hp) (lb : Nat) (left : Int) (nodes : Nat) (b : Bool) (r : AV) (hp' : Hp) : Prop := r = .v (.bool b) ∧ ∃ left', hp' = leftHp hp lb left' ∧ (b = true → left' = left - nodes)
/-- The contract of valid for terms of at most so many nodes. -/
def ValidC (p : ProgG) (N : Nat) : Prop := ∀ (t : TermG), nodesT t ≤ N → ∀ (hp : Hp) (bv bl lb : Nat) (V L : List Bytes) (left deep : Int), GOk hp → hp.mp bv = some (ents V) → hp.mp bl = some (ents L) → 0 ≤ left → left ≤ 600 → 1 ≤ deep → deep ≤ 25 →
  ACalls Tryz.prog 78 [p.av, scopeAV bv bl, t.av, ptrAV lb, .v (.int .i64 deep)] (leftHp hp lb left) (ResR hp lb left (nodesT t) (okB left deep (nodesT t) (depthT t) (validT p.ds p.pf (hasB V) (hasB L) t)))
def resA (f : TermG → Bool) (left deep : Int) (l : List TermG) : Bool := decide ((nodesA l : Int) ≤ left) && (decide (deep + 1 + (depthA l : Int) ≤ 25) && l.all f)
theorem resA_cons (f : TermG → Bool) (left deep : Int) (a : TermG) (r : List TermG) : resA f left deep (a :: r) = (okB left (deep + 1) (nodesT a) (depthT a) (f a) && resA f (left - nodesT a) deep r) := by
  rw [Bool.eq_iff_iff]
  simp only [resA, okB, Bool.and_eq_true, decide_eq_true_eq, nodesA_cons, List.all_cons]
  rw [show depthA (a :: r) = max (depthT a) (depthA r) from by rw [depthA]]
  constructor
  · rintro ⟨h1, h2, h3, h4⟩; exact ⟨⟨by omega, by omega, h3⟩, by omega, by omega, h4⟩
  · rintro ⟨⟨h1, h2, h3⟩, h4, h5, h6⟩; exact ⟨by omega, by omega, h3, h6⟩
theorem okB_true {left deep : Int} {n d : Nat} {v : Bool} (h : okB left deep n d v = true) : (n : Int) ≤ left ∧ deep + (d : Int) ≤ 25 ∧ v = true := by
  simpa only [okB, Bool.and_eq_true, decide_eq_true_eq] using h
theorem left_setMp (hp : Hp) (lb : Nat) (n : Int) (b : Nat) (es : List (Value × AV)) : (leftHp hp lb n).setMp b es = leftHp (hp.setMp b es) lb n := rfl
theorem left_left (hp : Hp) (lb : Nat) (n m : Int) : (leftHp hp lb n).setBlk lb 3 [.v (.int .i64 m)] = leftHp hp lb m := Hp.set_set ..
theorem left_blk (hp : Hp) (lb : Nat) (n : Int) : (leftHp hp lb n).blk lb = some (3, [.v (.int .i64 n)]) := by simp [leftHp, Hp.setBlk]
theorem left_mp (hp : Hp) (lb : Nat) (n : Int) : (leftHp hp lb n).mp = hp.mp := rfl
theorem left_le {hp : Hp} {b : Nat} (h : hp.mp b = none) (es : List (Value × AV)) (lb : Nat) (n : Int) : (leftHp hp lb n).le (leftHp (hp.setMp b es) lb n) := by
  rw [← left_setMp]; exact Hp.le_setMp _ _ _ h

theorem all_calls {p : ProgG} {N : Nat} (hv : ValidC p N) (h : Value) (l : List TermG) (hl : ∀ a ∈ l, nodesT a ≤ N) (hp : Hp) (bv bl lb : Nat) (V L : List Bytes) (left deep : Int) (hg : GOk hp) (h1 : hp.mp bv = some (ents V)) (h2 : hp.mp bl = some (ents L))
    (h3 : 0 ≤ left) (h4 : left ≤ 600) (h5 : 1 ≤ deep) (h6 : deep ≤ 24) :
    ACalls Tryz.prog 127 [p.av, scopeAV bv bl, termsAV h l, ptrAV lb, .v (.int .i64 deep)] (leftHp hp lb left) (ResR hp lb left (nodesA l) (resA (validT p.ds p.pf (hasB V) (hasB L)) left deep l)) := by
  refine acalls_fit (callable_of Tryz.func127 (by decide +kernel)) fun hfit => ?_
  have hll : l.length ≤ maxLen := fit_lst hfit.2.2.1
  have hwd : IntKind.i64.wrap (deep + 1) = deep + 1 := IntWalk.i64_in _ (by omega)
  refine acalls_of Tryz.func127 rfl (by decide +kernel) (awp_sound (mu := []) _ _ _ ?_)
  simp only [go_sem, Nat.reduceEqDiff, Nat.reduceAdd, Nat.reduceSub, Nat.reduceLT, Nat.reduceBEq, Nat.reduceLeDiff, ↓reduceIte, Int.reduceToNat, Int.reduceLE, Int.reduceLT, Int.reduceEq, reduceCtorEq, termsAV, ptrAV, ProgG.av, scopeAV]
  intro q1 q2
  refine aw_loopX 28 (fun x : Nat × Int => [(3, ptrAV lb), (4, .v (.int .i64 deep)), (5, .ref q1 p.cs), (6, .ref q2 [.v (.map (some bv)), .v (.map (some bl))]), (13, .lst 6 h (l.map TermG.av)), (14, .v (.int .i64 l.length)), (15, .v (.int .i64 x.1))])
    (fun x => leftHp hp lb x.2) (fun x => x.1 ≤ l.length ∧ 0 ≤ x.2 ∧ x.2 ≤ 600 ∧ x.2 + (nodesA l - nodesA (l.drop x.1) : Int) = left ∧ resA (validT p.ds p.pf (hasB V) (hasB L)) x.2 deep (l.drop x.1) = resA (validT p.ds p.pf (hasB V) (hasB L)) left deep l)
    (fun x => l.length - x.1) (0, left) ⟨Nat.zero_le _, h3, h4, by simp, rfl⟩ (le_mkSl rfl (Hp.le_refl _) (by simp [go_sem, ptrAV])) ?_
  rintro ⟨k, lf⟩ ⟨hk, l1, l2, l3, hall⟩
  simp only at hk l1 l2 l3 hall
  refine awp_sound (mu := []) _ _ _ ?_
  simp only [go_sem, Nat.reduceEqDiff, Nat.reduceAdd, Nat.reduceSub, Nat.reduceLT, Nat.reduceBEq, Nat.reduceLeDiff, ↓reduceIte, Int.reduceToNat, Int.reduceLE, Int.reduceLT, Int.reduceEq, reduceCtorEq]
  refine brK_mk (fun q => ?_) (fun q => ?_) <;> simp only [go_sem, Nat.reduceEqDiff, Nat.reduceAdd, Nat.reduceSub, Nat.reduceLT, Nat.reduceBEq, Nat.reduceLeDiff, ↓reduceIte, Int.reduceToNat, Int.reduceLE, Int.reduceLT, Int.reduceEq, reduceCtorEq, q]
  · have hk' : k < l.length := by simpa using q
    obtain ⟨a, ha⟩ := someAt l k hk'
    have hwu := upK k _ hk' hll
    rw [dropK ha, resA_cons] at hall
    rw [dropK ha, nodesA_cons] at l3
    simp only [go_sem, Nat.reduceEqDiff, Nat.reduceAdd, Nat.reduceSub, Nat.reduceLT, Nat.reduceBEq, Nat.reduceLeDiff, ↓reduceIte, Int.reduceToNat, Int.reduceLE, Int.reduceLT, Int.reduceEq, reduceCtorEq, mapAt TermG.av _ _ _ ha, TermG.av, TermG.cs_eq]
    intro v hv'
    have hds := fun T cs => Hp.del_set _ _ T cs hv'.1
    simp only [go_sem, Nat.reduceEqDiff, Nat.reduceAdd, Nat.reduceSub, Nat.reduceLT, Nat.reduceBEq, Nat.reduceLeDiff, ↓reduceIte, Int.reduceToNat, Int.reduceLE, Int.reduceLT, Int.reduceEq, reduceCtorEq, hds, hwd, ptrAV, ProgG.cs]
    have c := hv a (hl a (List.mem_of_getElem? ha)) hp bv bl lb V L lf (deep + 1) hg h1 h2 l1 l2 (by omega) (by omega)
    simp only [TermG.av, TermG.cs_eq, ptrAV, ProgG.av, ProgG.cs, scopeAV] at c
    refine callX_by c ?_
    rintro r hp1 ⟨rfl, lf', rfl, hlf⟩
    simp only [go_sem, Nat.reduceEqDiff, Nat.reduceAdd, Nat.reduceSub, Nat.reduceLT, Nat.reduceBEq, Nat.reduceLeDiff, ↓reduceIte, Int.reduceToNat, Int.reduceLE, Int.reduceLT, Int.reduceEq, reduceCtorEq]
    refine brK_mk (fun q3 => ?_) (fun q3 => ?_) <;> simp only [go_sem, Nat.reduceEqDiff, Nat.reduceAdd, Nat.reduceSub, Nat.reduceLT, Nat.reduceBEq, Nat.reduceLeDiff, ↓reduceIte, Int.reduceToNat, Int.reduceLE, Int.reduceLT, Int.reduceEq, reduceCtorEq, q3, hwu]
    · have := hlf q3
      subst this
      obtain ⟨b1, b2, b3⟩ := okB_true q3
      rw [q3, Bool.true_and] at hall
      exact ⟨(k + 1, lf - nodesT a), by simp only; omega, ⟨by simp only; omega, by simp only; omega, by simp only; omega, by simp only; omega, hall⟩, le_mkSl rfl (by simp only [go_sem, Nat.reduceEqDiff, Nat.reduceAdd, Nat.reduceSub, Nat.reduceLT, Nat.reduceBEq, Nat.reduceLeDiff, ↓reduceIte, Int.reduceToNat, Int.reduceLE, Int.reduceLT, Int.reduceEq, reduceCtorEq]; exact Hp.le_refl _) (by simp [go_sem, ptrAV, ProgG.cs, hwu])⟩
    · rw [q3, Bool.false_and] at hall
      exact ret_same ⟨by rw [← hall], lf', rfl, fun e => by rw [← hall] at e; cases e⟩
  · have e : l.length ≤ k := by simp at q; omega
    rw [List.drop_of_length_le e] at hall l3
    have hr : resA (validT p.ds p.pf (hasB V) (hasB L)) left deep l = true := by rw [← hall]; simp [resA, nodesA, depthA, l1]; omega
    exact ret_same ⟨by rw [hr], lf, rfl, fun _ => by simp [nodesA] at l3; omega⟩

/-! ### Clauses -/
def resC (ds : List DeclG) (pf : List Nat) (V L : Bytes → Bool) (left deep : Int) (xs : List XtorG) (cls : List ClauseG) : Bool := decide ((nodesC cls : Int) ≤ left) && (decide (deep + 1 + (depthC cls : Int) ≤ 25) && (clsNames xs cls && validC ds pf V L cls))
theorem resC_cons (ds : List DeclG) (pf : List Nat) (V L : Bytes → Bool) (left deep : Int) (x : XtorG) (xs : List XtorG) (c : ClauseG) (r : List ClauseG) :
    resC ds pf V L left deep (x :: xs) (c :: r) = (decide (c.names.length = prodN x) && (distinctB c.names && (okB left (deep + 1) (nodesT c.body) (depthT c.body) (validT ds pf (addL V c.names) L c.body) && resC ds pf V L (left - nodesT c.body) deep xs r))) := by
  rw [Bool.eq_iff_iff]
  simp only [resC, okB, Bool.and_eq_true, decide_eq_true_eq, nodesC_cons, clsNames, validC_cons]
  rw [show depthC (c :: r) = max (depthT c.body) (depthC r) from by rw [depthC, depthB_eq]]
  constructor
  · rintro ⟨h1, h2, ⟨⟨h3, h4⟩, h5⟩, h6, h7⟩; exact ⟨h3, h4, ⟨by omega, by omega, h6⟩, by omega, by omega, h5, h7⟩
  · rintro ⟨h3, h4, ⟨h1, h2, h6⟩, h8, h9, h5, h7⟩; exact ⟨by omega, by omega, ⟨⟨h3, h4⟩, h5⟩, h6, h7⟩
theorem clsNames_len : ∀ (xs : List XtorG) (cs : List ClauseG), xs.length ≠ cs.length → clsNames xs cs = false
  | [], [], h => absurd rfl h
  | [], _ :: _, _ => rfl
  | _ :: _, [], _ => rfl
  | x :: xs, c :: cs, h => by rw [clsNames, clsNames_len xs cs (by simpa using h), Bool.and_false]
theorem addL_ins (V names : List Bytes) : hasB (insL V names) = addL (hasB V) names := by funext x; rw [has_insL]; rfl
theorem addP_ins (V : List Bytes) (s : Bytes) : hasB (insB V s) = addP (hasB V) s := by funext x; rw [has_ins]; rfl

theorem clauses_calls {p : ProgG} {N : Nat} (hv : ValidC p N) (t : TermG) (hN : ∀ c ∈ t.cls, nodesT c.body ≤ N) (ht1 : 1 ≤ t.ty) (ht2 : t.ty ≤ p.ds.length) (hp : Hp) (bv bl lb : Nat) (V L : List Bytes) (left deep : Int) (hg : GOk hp) (h1 : hp.mp bv = some (ents V)) (h2 : hp.mp bl = some (ents L))
    (h3 : 0 ≤ left) (h4 : left ≤ 600) (h5 : 1 ≤ deep) (h6 : deep ≤ 24) :
    ACalls Tryz.prog 130 [p.av, scopeAV bv bl, t.av, ptrAV lb, .v (.int .i64 deep)] (leftHp hp lb left) (ResR hp lb left (nodesC t.cls) (resC p.ds p.pf (hasB V) (hasB L) left deep (xtorsOf p.ds t.ty) t.cls)) := by
  refine acalls_fit (callable_of Tryz.func130 (by decide +kernel)) fun hfit => ?_
  have hdl : p.ds.length ≤ maxLen := by
    have h := hfit.1
    simp only [ProgG.av, ProgG.cs, AV.fit, AV.fits, declsAV] at h
    exact fit_lst (f := DeclG.av) (sz := 3) (h := p.hd) (l := p.ds) (by simpa [AV.fit] using h.1)
  have hcl : t.cls.length ≤ maxLen := by
    have h := hfit.2.2.1
    simp only [TermG.av, TermG.cs_eq, AV.fit, AV.fits] at h
    exact fit_lst (f := ClauseG.av) (sz := 7) (h := t.hc) (l := t.cls) (by simpa [AV.fit] using h.2.2.2.2.2.1)
  have hwd : IntKind.i64.wrap (deep + 1) = deep + 1 := IntWalk.i64_in _ (by omega)
  have hwt : IntKind.i64.wrap (t.ty - 1) = t.ty - 1 := by simp only [maxLen] at hdl; exact IntWalk.i64_in _ (by omega)
  obtain ⟨d, hd⟩ := someAt p.ds (t.ty - 1).toNat (by omega)
  have hxs : xtorsOf p.ds t.ty = d.xtors := by simp only [xtorsOf, hd, Option.map_some, Option.getD_some]
  rw [hxs]
  refine acalls_of Tryz.func130 rfl (by decide +kernel) (awp_sound (mu := []) _ _ _ ?_)
  simp only [go_sem, Nat.reduceEqDiff, Nat.reduceAdd, Nat.reduceSub, Nat.reduceLT, Nat.reduceBEq, Nat.reduceLeDiff, ↓reduceIte, Int.reduceToNat, Int.reduceLE, Int.reduceLT, Int.reduceEq, reduceCtorEq, TermG.av, TermG.cs_eq, ptrAV, ProgG.av, ProgG.cs, scopeAV, declsAV, hwt, mapAt DeclG.av _ _ _ hd, DeclG.av, DeclG.cs]
  intro q1 q2 q3
  refine ⟨by omega, ?_⟩
  refine brK_mk (fun q => ?_) (fun q => ?_) <;> simp only [go_sem, Nat.reduceEqDiff, Nat.reduceAdd, Nat.reduceSub, Nat.reduceLT, Nat.reduceBEq, Nat.reduceLeDiff, ↓reduceIte, Int.reduceToNat, Int.reduceLE, Int.reduceLT, Int.reduceEq, reduceCtorEq, q]
  · have hlen : t.cls.length = d.xtors.length := by simp at q; omega
    refine aw_loopX 66 (fun x : Nat × Int => [(3, ptrAV lb), (4, .v (.int .i64 deep)), (5, .ref q1 p.cs), (6, .ref q2 [.v (.map (some bv)), .v (.map (some bl))]), (11, .lst 2 d.h (d.xtors.map XtorG.av)), (29, .lst 7 t.hc (t.cls.map ClauseG.av)), (30, .v (.int .i64 t.cls.length)), (31, .v (.int .i64 x.1))])
      (fun x => leftHp hp lb x.2) (fun x => x.1 ≤ t.cls.length ∧ 0 ≤ x.2 ∧ x.2 ≤ 600 ∧ x.2 + (nodesC t.cls - nodesC (t.cls.drop x.1) : Int) = left ∧ resC p.ds p.pf (hasB V) (hasB L) x.2 deep (d.xtors.drop x.1) (t.cls.drop x.1) = resC p.ds p.pf (hasB V) (hasB L) left deep d.xtors t.cls)
      (fun x => t.cls.length - x.1) (0, left) ⟨Nat.zero_le _, h3, h4, by simp, rfl⟩ (le_mkSl rfl (Hp.le_refl _) (by simp [go_sem, ptrAV, ProgG.cs, declsAV])) ?_
    rintro ⟨k, lf⟩ ⟨hk, l1, l2, l3, hall⟩
    simp only at hk l1 l2 l3 hall
    refine awp_sound (mu := []) _ _ _ ?_
    simp only [go_sem, Nat.reduceEqDiff, Nat.reduceAdd, Nat.reduceSub, Nat.reduceLT, Nat.reduceBEq, Nat.reduceLeDiff, ↓reduceIte, Int.reduceToNat, Int.reduceLE, Int.reduceLT, Int.reduceEq, reduceCtorEq]
    refine brK_mk (fun q => ?_) (fun q => ?_) <;> simp only [go_sem, Nat.reduceEqDiff, Nat.reduceAdd, Nat.reduceSub, Nat.reduceLT, Nat.reduceBEq, Nat.reduceLeDiff, ↓reduceIte, Int.reduceToNat, Int.reduceLE, Int.reduceLT, Int.reduceEq, reduceCtorEq, q]
    · have hk' : k < t.cls.length := by simpa using q
      obtain ⟨c, hc⟩ := someAt t.cls k hk'
      obtain ⟨x, hx⟩ := someAt d.xtors k (by omega)
      have hwu := upK k _ hk' hcl
      rw [dropK hc, dropK hx, resC_cons] at hall
      rw [dropK hc, nodesC_cons] at l3
      simp only [go_sem, Nat.reduceEqDiff, Nat.reduceAdd, Nat.reduceSub, Nat.reduceLT, Nat.reduceBEq, Nat.reduceLeDiff, ↓reduceIte, Int.reduceToNat, Int.reduceLE, Int.reduceLT, Int.reduceEq, reduceCtorEq, mapAt ClauseG.av _ _ _ hc, ClauseG.av, ClauseG.cs_eq]
      intro v hv'
      have hds := fun T cs => Hp.del_set _ _ T cs hv'.1
      simp only [go_sem, Nat.reduceEqDiff, Nat.reduceAdd, Nat.reduceSub, Nat.reduceLT, Nat.reduceBEq, Nat.reduceLeDiff, ↓reduceIte, Int.reduceToNat, Int.reduceLE, Int.reduceLT, Int.reduceEq, reduceCtorEq, hds]
      refine draw_by (mu := []) (fun _ => True) (.take 0 (.take 1 (.take 2 (.take 3 (.take 4 (.take 5 (.take 6 (.br 7 (.take 8 (.take 9 (.take 10 (.take 11 (.br 12 (.take 13 (.take 14 (.take 15 (.take 16 (.take 17 (.take 18 (.take 19 (.take 21 (.take 22 (.take 23 (.take 24 (.take 25 (.br 20 (.br 26 (.take 27 (.take 28 (.done))) (.stop)) (.stop)))))))))))))) (.stop)))))) (.stop))))))))) (by decide +kernel) trivial (by decide +kernel) (by decide +kernel) ?_
      simp only [go_sem, Nat.reduceEqDiff, Nat.reduceAdd, Nat.reduceSub, Nat.reduceLT, Nat.reduceBEq, Nat.reduceLeDiff, ↓reduceIte, Int.reduceToNat, Int.reduceLE, Int.reduceLT, Int.reduceEq, reduceCtorEq, mapAt XtorG.av _ _ _ hx, XtorG.av, XtorG.cs, ProgG.cs, declsAV]
      refine callX_by (producers_calls x _) ?_
      rintro r hp1 ⟨⟨rfl, -⟩, rfl⟩
      simp only [go_sem, Nat.reduceEqDiff, Nat.reduceAdd, Nat.reduceSub, Nat.reduceLT, Nat.reduceBEq, Nat.reduceLeDiff, ↓reduceIte, Int.reduceToNat, Int.reduceLE, Int.reduceLT, Int.reduceEq, reduceCtorEq, List.length_map]
      refine brK_mk (fun b1 => ?_) (fun b1 => ?_) <;> simp only [go_sem, Nat.reduceEqDiff, Nat.reduceAdd, Nat.reduceSub, Nat.reduceLT, Nat.reduceBEq, Nat.reduceLeDiff, ↓reduceIte, Int.reduceToNat, Int.reduceLE, Int.reduceLT, Int.reduceEq, reduceCtorEq, b1]
      · refine callX_by (distinct_calls c.hn c.names _ hg) ?_
        rintro r hp1 ⟨rfl, rfl⟩
        simp only [go_sem, Nat.reduceEqDiff, Nat.reduceAdd, Nat.reduceSub, Nat.reduceLT, Nat.reduceBEq, Nat.reduceLeDiff, ↓reduceIte, Int.reduceToNat, Int.reduceLE, Int.reduceLT, Int.reduceEq, reduceCtorEq]
        refine brK_mk (fun b2 => ?_) (fun b2 => ?_) <;> simp only [go_sem, Nat.reduceEqDiff, Nat.reduceAdd, Nat.reduceSub, Nat.reduceLT, Nat.reduceBEq, Nat.reduceLeDiff, ↓reduceIte, Int.reduceToNat, Int.reduceLE, Int.reduceLT, Int.reduceEq, reduceCtorEq, b2, ProgG.cs, declsAV]
        · refine callX_by (with_calls (bv := bv) (bl := bl) (V := V) c.hn c.names _ h1) ?_
          rintro r hp1 ⟨b, rfl, hbn, rfl⟩
          have hbn' : hp.mp b = none := hbn
          have hbl : b ≠ bl := by rintro rfl; rw [h2] at hbn'; cases hbn'
          rw [left_setMp]
          simp only [go_sem, Nat.reduceEqDiff, Nat.reduceAdd, Nat.reduceSub, Nat.reduceLT, Nat.reduceBEq, Nat.reduceLeDiff, ↓reduceIte, Int.reduceToNat, Int.reduceLE, Int.reduceLT, Int.reduceEq, reduceCtorEq, scopeAV, hwd]
          have c1 := hv c.body (hN c (List.mem_of_getElem? hc)) (hp.setMp b (ents (insL V c.names))) b bl lb (insL V c.names) L lf (deep + 1) hg (by simp [Hp.setMp]) (by simp [Hp.setMp, Ne.symm hbl, h2]) l1 l2 (by omega) (by omega)
          rw [addL_ins] at c1
          simp only [TermG.av, TermG.cs_eq, ptrAV, ProgG.av, ProgG.cs, scopeAV, declsAV] at c1
          refine callX_by c1 ?_
          rintro r hp1 ⟨rfl, lf', rfl, hlf⟩
          simp only [go_sem, Nat.reduceEqDiff, Nat.reduceAdd, Nat.reduceSub, Nat.reduceLT, Nat.reduceBEq, Nat.reduceLeDiff, ↓reduceIte, Int.reduceToNat, Int.reduceLE, Int.reduceLT, Int.reduceEq, reduceCtorEq]
          refine brK_mk (fun q3 => ?_) (fun q3 => ?_) <;> simp only [go_sem, Nat.reduceEqDiff, Nat.reduceAdd, Nat.reduceSub, Nat.reduceLT, Nat.reduceBEq, Nat.reduceLeDiff, ↓reduceIte, Int.reduceToNat, Int.reduceLE, Int.reduceLT, Int.reduceEq, reduceCtorEq, q3, hwu]
          · have := hlf q3
            subst this
            obtain ⟨d1, d2, d3⟩ := okB_true q3
            rw [decide_eq_true (by simp at b1; omega), b2, q3, Bool.true_and, Bool.true_and, Bool.true_and] at hall
            exact ⟨(k + 1, lf - nodesT c.body), by simp only; omega, ⟨by simp only; omega, by simp only; omega, by simp only; omega, by simp only; omega, hall⟩, le_mkSl rfl (by simp only [go_sem, Nat.reduceEqDiff, Nat.reduceAdd, Nat.reduceSub, Nat.reduceLT, Nat.reduceBEq, Nat.reduceLeDiff, ↓reduceIte, Int.reduceToNat, Int.reduceLE, Int.reduceLT, Int.reduceEq, reduceCtorEq]; exact left_le hbn' _ _ _) (by simp [go_sem, ptrAV, ProgG.cs, declsAV, hwu])⟩
          · rw [q3, Bool.false_and, Bool.and_false, Bool.and_false] at hall
            exact ret_le (left_le hbn' _ _ _) ⟨by rw [← hall], lf', rfl, fun e => by rw [← hall] at e; cases e⟩
        · rw [b2, Bool.false_and, Bool.and_false] at hall
          exact ret_same ⟨by rw [← hall], lf, rfl, fun e => by rw [← hall] at e; cases e⟩
      · rw [decide_eq_false (by simp at b1; omega), Bool.false_and] at hall
        exact ret_same ⟨by rw [← hall], lf, rfl, fun e => by rw [← hall] at e; cases e⟩
    · have e : t.cls.length ≤ k := by simp at q; omega
      rw [List.drop_of_length_le e, List.drop_of_length_le (by omega)] at hall
      rw [List.drop_of_length_le e] at l3
      have hr : resC p.ds p.pf (hasB V) (hasB L) left deep d.xtors t.cls = true := by rw [← hall]; simp [resC, nodesC, depthC, clsNames, validC, l1]; omega
      exact ret_same ⟨by rw [hr], lf, rfl, fun _ => by simp [nodesC] at l3; omega⟩
  · have hlen : d.xtors.length ≠ t.cls.length := by simp at q; omega
    have hr : resC p.ds p.pf (hasB V) (hasB L) left deep d.xtors t.cls = false := by simp [resC, clsNames_len _ _ hlen]
    exact ret_same ⟨by rw [hr], left, rfl, fun e => by rw [hr] at e; cases e⟩
end Go.Proofs.YtkoachnlimebaaaGreatDoor
/- Validity, op by op, in plain words. -/
set_option linter.unusedSimpArgs false
set_option linter.unusedVariables false
set_option maxRecDepth 20000
namespace Go.Proofs.YtkoachnlimebaaaGreatDoor
open Go.AL
section
variable {ds : List DeclG} {pf : List Nat} {V L : Bytes → Bool} {t : TermG} {left deep : Int}
theorem argV_id {op : Int} (h : op ≠ 8) (name : Bytes) (k : Nat) : argV V op name k = V := by rw [argV, if_neg (by rintro ⟨h1, _⟩; exact h h1)]
theorem argL_id {op : Int} (h : op ≠ 11) (name : Bytes) : argL L op name = L := by rw [argL, if_neg h]
theorem validA_all {op : Int} (h8 : op ≠ 8) (h11 : op ≠ 11) (name : Bytes) : ∀ (l : List TermG) (k : Nat), validA ds pf V L op name k l = l.all (validT ds pf V L)
  | [], _ => by rw [validA]; rfl
  | a :: r, k => by rw [validA_cons, argV_id h8, argL_id h11, validA_all h8 h11 name r, List.all_cons]
theorem okB_iff {n d : Nat} {v : Bool} : okB left deep n d v = true ↔ (n : Int) ≤ left ∧ deep + (d : Int) ≤ 25 ∧ v = true := by simp only [okB, Bool.and_eq_true, decide_eq_true_eq]
theorem resA_iff {f : TermG → Bool} {l : List TermG} : resA f left deep l = true ↔ (nodesA l : Int) ≤ left ∧ deep + 1 + (depthA l : Int) ≤ 25 ∧ l.all f = true := by simp only [resA, Bool.and_eq_true, decide_eq_true_eq]
theorem resC_iff {xs : List XtorG} {cls : List ClauseG} : resC ds pf V L left deep xs cls = true ↔ (nodesC cls : Int) ≤ left ∧ deep + 1 + (depthC cls : Int) ≤ 25 ∧ clsNames xs cls = true ∧ validC ds pf V L cls = true := by simp only [resC, Bool.and_eq_true, decide_eq_true_eq]
theorem nodes_nil : nodesC [] = 0 := by rw [nodesC]
theorem depth_nil : depthC [] = 0 := by rw [depthC]
theorem nodesA_nil : nodesA [] = 0 := by rw [nodesA]
theorem depthA_nil : depthA [] = 0 := by rw [depthA]
theorem depthA_cons (a : TermG) (r : List TermG) : depthA (a :: r) = max (depthT a) (depthA r) := by rw [depthA]
theorem validC_nil : validC ds pf V L [] = true := by rw [validC]
theorem validA_nil (op : Int) (name : Bytes) (k : Nat) : validA ds pf V L op name k [] = true := by rw [validA]
theorem ok_all (h1 : 1 ≤ left) (h2 : deep ≤ 24) (hc : t.cls = []) (h8 : t.op ≠ 8) (h11 : t.op ≠ 11) :
    okB left deep (nodesT t) (depthT t) (validT ds pf V L t) = (nodeB ds pf V L t && resA (validT ds pf V L) (left - 1) deep t.args) := by
  have e1 := nodesT_eq t
  have e2 := depthT_eq t
  rw [hc, nodes_nil] at e1
  rw [hc, depth_nil] at e2
  rw [Bool.eq_iff_iff, Bool.and_eq_true, okB_iff, resA_iff, validT_eq, hc, validC_nil, Bool.and_eq_true, validA_all h8 h11, Bool.and_eq_true]
  constructor
  · rintro ⟨a, b, c, d, _⟩; exact ⟨c, by omega, by omega, d⟩
  · rintro ⟨c, a, b, d⟩; exact ⟨by omega, by omega, c, d, rfl⟩
theorem ok_cls (h1 : 1 ≤ left) (h2 : deep ≤ 24) (h8 : t.op ≠ 8) (h11 : t.op ≠ 11) (xs : List XtorG) (hn : nodeB ds pf V L t = true → clsNames xs t.cls = true) :
    okB left deep (nodesT t) (depthT t) (validT ds pf V L t) = (nodeB ds pf V L t && (resA (validT ds pf V L) (left - 1) deep t.args && resC ds pf V L (left - 1 - nodesA t.args) deep xs t.cls)) := by
  have e1 := nodesT_eq t
  have e2 := depthT_eq t
  rw [Bool.eq_iff_iff, Bool.and_eq_true, Bool.and_eq_true, okB_iff, resA_iff, resC_iff, validT_eq, Bool.and_eq_true, validA_all h8 h11, Bool.and_eq_true]
  constructor
  · rintro ⟨a, b, c, d, e⟩; exact ⟨c, ⟨by omega, by omega, d⟩, by omega, by omega, hn c, e⟩
  · rintro ⟨c, ⟨a, b, d⟩, f, g, _, e⟩; exact ⟨by omega, by omega, c, d, e⟩
theorem ok_let {a b : TermG} (h1 : 1 ≤ left) (h2 : deep ≤ 24) (h8 : t.op = 8) (ha : t.args = [a, b]) (hc : t.cls = []) :
    okB left deep (nodesT t) (depthT t) (validT ds pf V L t) = (nodeB ds pf V L t && (okB (left - 1) (deep + 1) (nodesT a) (depthT a) (validT ds pf V L a) && okB (left - 1 - nodesT a) (deep + 1) (nodesT b) (depthT b) (validT ds pf (addP V t.name) L b))) := by
  have e1 := nodesT_eq t
  have e2 := depthT_eq t
  rw [hc, ha, nodes_nil, nodesA_cons, nodesA_cons, nodesA_nil] at e1
  rw [hc, ha, depth_nil, depthA_cons, depthA_cons, depthA_nil] at e2
  have hv : validT ds pf V L t = (nodeB ds pf V L t && (validT ds pf V L a && validT ds pf (addP V t.name) L b)) := by
    rw [validT_eq, ha, hc, validC_nil, validA_cons, validA_cons, validA_nil, h8]
    simp [argV, argL]
  rw [Bool.eq_iff_iff, Bool.and_eq_true, Bool.and_eq_true, okB_iff, okB_iff, okB_iff, hv, Bool.and_eq_true, Bool.and_eq_true]
  constructor
  · rintro ⟨a1, a2, a3, a4, a5⟩; exact ⟨a3, ⟨by omega, by omega, a4⟩, by omega, by omega, a5⟩
  · rintro ⟨a3, ⟨a1, a2, a4⟩, a6, a7, a5⟩; exact ⟨by omega, by omega, a3, a4, a5⟩
theorem ok_label {a : TermG} (h1 : 1 ≤ left) (h2 : deep ≤ 24) (h8 : t.op = 11) (ha : t.args = [a]) (hc : t.cls = []) :
    okB left deep (nodesT t) (depthT t) (validT ds pf V L t) = (nodeB ds pf V L t && okB (left - 1) (deep + 1) (nodesT a) (depthT a) (validT ds pf V (addP L t.name) a)) := by
  have e1 := nodesT_eq t
  have e2 := depthT_eq t
  rw [hc, ha, nodes_nil, nodesA_cons, nodesA_nil] at e1
  rw [hc, ha, depth_nil, depthA_cons, depthA_nil] at e2
  have hv : validT ds pf V L t = (nodeB ds pf V L t && validT ds pf V (addP L t.name) a) := by
    rw [validT_eq, ha, hc, validC_nil, validA_cons, validA_nil, h8]
    simp [argV, argL]
  rw [Bool.eq_iff_iff, Bool.and_eq_true, okB_iff, okB_iff, hv, Bool.and_eq_true]
  constructor
  · rintro ⟨a1, a2, a3, a4⟩; exact ⟨a3, by omega, by omega, a4⟩
  · rintro ⟨a3, a1, a2, a4⟩; exact ⟨by omega, by omega, a3, a4⟩
theorem ok_left (h : left < 1) : okB left deep (nodesT t) (depthT t) (validT ds pf V L t) = false := by
  have := nodesT_pos t
  rw [okB, decide_eq_false (by omega), Bool.false_and]
theorem ok_deep (h : 24 < deep) : okB left deep (nodesT t) (depthT t) (validT ds pf V L t) = false := by
  have : 1 ≤ depthT t := by rw [depthT_eq]; omega
  rw [okB, decide_eq_false (p := deep + (depthT t : Int) ≤ 25) (by omega), Bool.false_and, Bool.and_false]
theorem ok_node (h : nodeB ds pf V L t = false) : okB left deep (nodesT t) (depthT t) (validT ds pf V L t) = false := by
  rw [validT_eq, h]; simp [okB]

theorem ok_none (h1 : 1 ≤ left) (h2 : deep ≤ 24) (ha : t.args = []) (hc : t.cls = []) (h8 : t.op ≠ 8) (h11 : t.op ≠ 11) : okB left deep (nodesT t) (depthT t) (validT ds pf V L t) = nodeB ds pf V L t := by
  rw [ok_all h1 h2 hc h8 h11]
  have : resA (validT ds pf V L) (left - 1) deep t.args = true := by rw [resA_iff, ha, nodesA_nil, depthA_nil]; exact ⟨by omega, by omega, rfl⟩
  rw [this, Bool.and_true]
theorem nodes_args (hc : t.cls = []) : nodesT t = 1 + nodesA t.args := by rw [nodesT_eq, hc, nodes_nil, Nat.add_zero]
theorem fields_len {n name ty : Bool} {k : Int} (h : fieldsB t n name ty k = true) : (t.args.length : Int) = k := by
  simp only [fieldsB, Bool.and_eq_true, decide_eq_true_eq] at h; exact h.2

theorem len2 {α : Type} {l : List α} (h : l.length = 2) : ∃ a b, l = [a, b] := by
  match l, h with
  | [a, b], _ => exact ⟨a, b, rfl⟩
theorem len1 {α : Type} {l : List α} (h : l.length = 1) : ∃ a, l = [a] := by
  match l, h with
  | [a], _ => exact ⟨a, rfl⟩
theorem left_setSp (hp : Hp) (lb : Nat) (n : Int) (b : Nat) (es : List (Value × AV)) (x : List (TypeId × Nat × Value)) : ((leftHp hp lb n).setSp x).setMp b es = leftHp ((hp.setSp x).setMp b es) lb n := rfl
theorem left_le2 {hp : Hp} {b : Nat} (h : hp.mp b = none) (es : List (Value × AV)) (lb : Nat) (n : Int) (x : TypeId × Nat × Value) : (leftHp hp lb n).le (leftHp ((hp.setSp (x :: hp.sp)).setMp b es) lb n) := by
  refine ⟨fun _ _ h => h, fun i y hi => ?_, List.sublist_cons_self _ _, fun _ h => h⟩
  have e : i ≠ b := by rintro rfl; rw [show (leftHp hp lb n).mp i = hp.mp i from rfl, h] at hi; cases hi
  simpa [leftHp, Hp.setMp, Hp.setSp, Hp.setBlk, e] using hi

/-! ### Nodes -/
theorem node_cls (h5 : t.op ≠ 5) (h7 : t.op ≠ 7) (hc : t.cls.length ≠ 0) : nodeB ds pf V L t = false := by
  unfold nodeB
  simp only [h5, h7, hc, decide_false, Bool.and_false, Bool.false_and, if_false, ite_self]
theorem node_0 (h : t.op = 0) (hc : t.cls.length = 0) : nodeB ds pf V L t = (fieldsB t false true false 0 && V t.name) := by
  rw [Bool.eq_iff_iff]; simp [nodeB, fieldsB, h, hc]; try grind
theorem node_1 (h : t.op = 1) (hc : t.cls.length = 0) : nodeB ds pf V L t = fieldsB t true false false 0 := by
  rw [Bool.eq_iff_iff]; simp [nodeB, fieldsB, h, hc]; try grind
theorem node_2 (h : t.op = 2) (hc : t.cls.length = 0) : nodeB ds pf V L t = (fieldsB t true false false 2 && (decide (t.n ≥ 0) && decide (t.n ≤ 6))) := by
  rw [Bool.eq_iff_iff]; simp [nodeB, fieldsB, h, hc]; try grind
theorem node_3 (h : t.op = 3) (hc : t.cls.length = 0) : nodeB ds pf V L t = fieldsB t false false false 3 := by
  rw [Bool.eq_iff_iff]; simp [nodeB, fieldsB, h, hc]; try grind
theorem node_4 (h : t.op = 4) (hc : t.cls.length = 0) {x : XtorG} (hx : (xtorsOf ds t.ty)[t.n.toNat]? = some x) (hd : dataB ds t.ty false = true) (hh : hasN ds t.ty t.n = true) : nodeB ds pf V L t = fieldsB t true false true (prodN x) := by
  rw [Bool.eq_iff_iff]; simp [nodeB, fieldsB, h, hc, hx, hd, hh]; try grind
theorem node_4d (h : t.op = 4) (hd : dataB ds t.ty false = false) : nodeB ds pf V L t = false := by simp [nodeB, h, hd]
theorem node_4h (h : t.op = 4) (hd : hasN ds t.ty t.n = false) : nodeB ds pf V L t = false := by simp [nodeB, h, hd]
theorem node_6 (h : t.op = 6) (hc : t.cls.length = 0) {x : XtorG} (hx : (xtorsOf ds t.ty)[t.n.toNat]? = some x) (hd : dataB ds t.ty true = true) (hh : hasN ds t.ty t.n = true) : nodeB ds pf V L t = fieldsB t true false true ((prodN x : Int) + 1) := by
  rw [Bool.eq_iff_iff]; simp [nodeB, fieldsB, h, hc, hx, hd, hh]; try grind
theorem node_6d (h : t.op = 6) (hd : dataB ds t.ty true = false) : nodeB ds pf V L t = false := by simp [nodeB, h, hd]
theorem node_6h (h : t.op = 6) (hd : hasN ds t.ty t.n = false) : nodeB ds pf V L t = false := by simp [nodeB, h, hd]
theorem node_5 (h : t.op = 5) : nodeB ds pf V L t = (fieldsB t false false true 1 && (dataB ds t.ty false && clsNames (xtorsOf ds t.ty) t.cls)) := by
  rw [Bool.eq_iff_iff]; simp [nodeB, fieldsB, h]; try grind
theorem node_7 (h : t.op = 7) : nodeB ds pf V L t = (fieldsB t false false true 0 && (dataB ds t.ty true && clsNames (xtorsOf ds t.ty) t.cls)) := by
  rw [Bool.eq_iff_iff]; simp [nodeB, fieldsB, h]; try grind
theorem ok_5 (h1 : 1 ≤ left) (h2 : deep ≤ 24) (h : t.op = 5) : okB left deep (nodesT t) (depthT t) (validT ds pf V L t) = (fieldsB t false false true 1 && (dataB ds t.ty false && (resA (validT ds pf V L) (left - 1) deep t.args && resC ds pf V L (left - 1 - nodesA t.args) deep (xtorsOf ds t.ty) t.cls))) := by
  rw [ok_cls h1 h2 (by rw [h]; decide) (by rw [h]; decide) (xtorsOf ds t.ty) (fun hn => by rw [node_5 h] at hn; simp only [Bool.and_eq_true] at hn; exact hn.2.2), node_5 h]
  rw [Bool.eq_iff_iff]
  simp only [Bool.and_eq_true, resC_iff]
  constructor
  · rintro ⟨⟨a, b, c⟩, d, e⟩; exact ⟨a, b, d, e⟩
  · rintro ⟨a, b, d, e⟩; exact ⟨⟨a, b, e.2.2.1⟩, d, e⟩
theorem ok_7 (h1 : 1 ≤ left) (h2 : deep ≤ 24) (h : t.op = 7) (ha : t.args = []) : okB left deep (nodesT t) (depthT t) (validT ds pf V L t) = (fieldsB t false false true 0 && (dataB ds t.ty true && resC ds pf V L (left - 1) deep (xtorsOf ds t.ty) t.cls)) := by
  rw [ok_cls h1 h2 (by rw [h]; decide) (by rw [h]; decide) (xtorsOf ds t.ty) (fun hn => by rw [node_7 h] at hn; simp only [Bool.and_eq_true] at hn; exact hn.2.2), node_7 h]
  rw [Bool.eq_iff_iff]
  simp only [Bool.and_eq_true, resC_iff, resA_iff, ha, nodesA_nil, depthA_nil]
  constructor
  · rintro ⟨⟨a, b, c⟩, d, e⟩; exact ⟨a, b, by omega, e.2⟩
  · rintro ⟨a, b, e⟩; exact ⟨⟨a, b, e.2.2.1⟩, ⟨by omega, by omega, rfl⟩, by omega, e.2⟩
theorem data_ty {co : Bool} {ty : Int} (h : dataB ds ty co = true) : 1 ≤ ty ∧ ty ≤ ds.length := by
  simp only [dataB, Bool.and_eq_true, decide_eq_true_eq] at h; exact ⟨h.1.1, h.1.2⟩
theorem node_8 (h : t.op = 8) (hc : t.cls.length = 0) : nodeB ds pf V L t = (fieldsB t false true true 2 && (nameB t.name && typB ds t.ty)) := by
  rw [Bool.eq_iff_iff]; simp [nodeB, fieldsB, h, hc]; try grind
theorem node_9 (h : t.op = 9) (hc : t.cls.length = 0) {k : Nat} (hk : pf[t.n.toNat]? = some k) (h0 : 0 ≤ t.n) : nodeB ds pf V L t = fieldsB t true false false k := by
  rw [Bool.eq_iff_iff]; simp [nodeB, fieldsB, h, hc, hk, h0]; try grind
theorem node_9n (h : t.op = 9) (h0 : t.n < 0) : nodeB ds pf V L t = false := by simp [nodeB, h]; intro h1; omega
theorem node_9k (h : t.op = 9) (hk : pf[t.n.toNat]? = none) : nodeB ds pf V L t = false := by simp [nodeB, h, hk]
theorem node_10 (h : t.op = 10) (hc : t.cls.length = 0) : nodeB ds pf V L t = fieldsB t false false false 2 := by
  rw [Bool.eq_iff_iff]; simp [nodeB, fieldsB, h, hc]; try grind
theorem node_11 (h : t.op = 11) (hc : t.cls.length = 0) : nodeB ds pf V L t = (fieldsB t false true true 1 && (nameB t.name && typB ds t.ty)) := by
  rw [Bool.eq_iff_iff]; simp [nodeB, fieldsB, h, hc]; try grind
theorem node_12 (h : t.op = 12) (hc : t.cls.length = 0) : nodeB ds pf V L t = (fieldsB t false true true 1 && (L t.name && typB ds t.ty)) := by
  rw [Bool.eq_iff_iff]; simp [nodeB, fieldsB, h, hc]; try grind
theorem node_no (h0 : ¬ t.op = 0) (h1 : ¬ t.op = 1) (h2 : ¬ t.op = 2) (h3 : ¬ t.op = 3) (h4 : ¬ t.op = 4) (h5 : ¬ t.op = 5) (h6 : ¬ t.op = 6) (h7 : ¬ t.op = 7) (h8 : ¬ t.op = 8) (h9 : ¬ t.op = 9) (h10 : ¬ t.op = 10) (h11 : ¬ t.op = 11) (h12 : ¬ t.op = 12) : nodeB ds pf V L t = false := by
  unfold nodeB
  rw [if_neg h0, if_neg h1, if_neg h2, if_neg h3, if_neg h4, if_neg h5, if_neg h6, if_neg h7, if_neg h8, if_neg h9, if_neg h10, if_neg h11, if_neg h12]
end
end Go.Proofs.YtkoachnlimebaaaGreatDoor
