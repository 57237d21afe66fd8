/- The layer 'term': valid. -/
import Derived.Test.YtkoachnlimebaaaGreatDoorCT6
set_option linter.unusedSimpArgs false
set_option linter.unusedVariables false
set_option maxRecDepth 20000
set_option maxHeartbeats 4000000
namespace Go.Proofs.YtkoachnlimebaaaGreatDoor
open Go.AL

/-- The xtors are no longer than valid ones. -/
def SmallX (ds : List DeclG) : Prop := ∀ d ∈ ds, ∀ x ∈ d.xtors, x.args.length ≤ 6
theorem valid_step {p : ProgG} {N : Nat} (hsm : SmallX p.ds) (hv : ValidC p N) : ValidC p (N + 1) := by
  intro t ht hp bv bl lb V L left deep hg h1 h2 h3 h4 h5 h6
  have hargs : ∀ a ∈ t.args, nodesT a ≤ N := fun a ha => by have := args_lt ha; omega
  have hcls : ∀ c ∈ t.cls, nodesT c.body ≤ N := fun c hc => by have := cls_lt hc; omega
  have hwl : IntKind.i64.wrap (left - 1) = left - 1 := IntWalk.i64_in _ (by omega)
  have hwd : IntKind.i64.wrap (deep + 1) = deep + 1 := IntWalk.i64_in _ (by omega)
  refine acalls_fit (callable_of Tryz.func78 (by decide +kernel)) fun hfit => ?_
  have hdl : p.ds.length ≤ maxLen := by
    have h := hfit.1
    simp only [ProgG.av, ProgG.cs, AV.fit, AV.fits, declsAV] at h
    exact fit_lst (f := DeclG.av) (sz := 3) (h := p.hd) (l := p.ds) (by simpa [AV.fit] using h.1)
  clear hfit
  refine acalls_of Tryz.func78 rfl (by decide +kernel) (awp_sound (mu := [17]) _ _ _ ?_)
  simp only [go_sem, Nat.reduceEqDiff, Nat.reduceAdd, Nat.reduceSub, Nat.reduceLT, Nat.reduceBEq, Nat.reduceLeDiff, ↓reduceIte, Int.reduceToNat, Int.reduceLE, Int.reduceLT, Int.reduceEq, reduceCtorEq, ptrAV, ProgG.av, ProgG.cs, scopeAV, TermG.av, TermG.cs_eq]
  intro q1 q2 q3
  simp only [go_sem, Nat.reduceEqDiff, Nat.reduceAdd, Nat.reduceSub, Nat.reduceLT, Nat.reduceBEq, Nat.reduceLeDiff, ↓reduceIte, Int.reduceToNat, Int.reduceLE, Int.reduceLT, Int.reduceEq, reduceCtorEq, left_blk, hwl, left_left]
  refine brK_mk (fun b1 => ?_) (fun b1 => ?_) <;> simp only [go_sem, Nat.reduceEqDiff, Nat.reduceAdd, Nat.reduceSub, Nat.reduceLT, Nat.reduceBEq, Nat.reduceLeDiff, ↓reduceIte, Int.reduceToNat, Int.reduceLE, Int.reduceLT, Int.reduceEq, reduceCtorEq, b1]
  · have hl : left < 1 := by simp at b1; omega
    exact ret_same ⟨by rw [ok_left hl], left - 1, rfl, fun e => by rw [ok_left hl] at e; cases e⟩
  · have hl : 1 ≤ left := by simp at b1; omega
    refine brK_mk (fun b2 => ?_) (fun b2 => ?_) <;> simp only [go_sem, Nat.reduceEqDiff, Nat.reduceAdd, Nat.reduceSub, Nat.reduceLT, Nat.reduceBEq, Nat.reduceLeDiff, ↓reduceIte, Int.reduceToNat, Int.reduceLE, Int.reduceLT, Int.reduceEq, reduceCtorEq, b2]
    · have hd : 24 < deep := by simp at b2; omega
      exact ret_same ⟨by rw [ok_deep hd], left - 1, rfl, fun e => by rw [ok_deep hd] at e; cases e⟩
    · have hd : deep ≤ 24 := by simp at b2; omega
      by_cases ok : t.op = 0
      · simp only [go_sem, Nat.reduceEqDiff, Nat.reduceAdd, Nat.reduceSub, Nat.reduceLT, Nat.reduceBEq, Nat.reduceLeDiff, ↓reduceIte, Int.reduceToNat, Int.reduceLE, Int.reduceLT, Int.reduceEq, reduceCtorEq, ok, List.length_map]
        refine brK_mk (fun bc => ?_) (fun bc => ?_) <;> simp only [go_sem, Nat.reduceEqDiff, Nat.reduceAdd, Nat.reduceSub, Nat.reduceLT, Nat.reduceBEq, Nat.reduceLeDiff, ↓reduceIte, Int.reduceToNat, Int.reduceLE, Int.reduceLT, Int.reduceEq, reduceCtorEq, bc, ok]
        · have hc0 : t.cls.length = 0 := by simpa using bc
          have hcn : t.cls = [] := List.eq_nil_of_length_eq_zero hc0
          have f := fields_calls t false true false 0 (leftHp hp lb (left - 1))
          simp only [TermG.av, TermG.cs_eq, ok] at f
          refine callX_by f ?_
          clear f
          rintro r hp1 ⟨rfl, rfl⟩
          simp only [go_sem, Nat.reduceEqDiff, Nat.reduceAdd, Nat.reduceSub, Nat.reduceLT, Nat.reduceBEq, Nat.reduceLeDiff, ↓reduceIte, Int.reduceToNat, Int.reduceLE, Int.reduceLT, Int.reduceEq, reduceCtorEq, List.length_map]
          refine brK_mk (fun b3 => ?_) (fun b3 => ?_) <;> simp only [go_sem, Nat.reduceEqDiff, Nat.reduceAdd, Nat.reduceSub, Nat.reduceLT, Nat.reduceBEq, Nat.reduceLeDiff, ↓reduceIte, Int.reduceToNat, Int.reduceLE, Int.reduceLT, Int.reduceEq, reduceCtorEq, b3]
          · have hres := ok_none (ds := p.ds) (pf := p.pf) (V := hasB V) (L := hasB L) hl hd (List.eq_nil_of_length_eq_zero (by have := fields_len b3; omega)) hcn (by rw [ok]; decide) (by rw [ok]; decide)
            have hnn : nodesT t = 1 := by have h0 : t.args = [] := List.eq_nil_of_length_eq_zero (by have := fields_len b3; omega); have := nodes_args hcn; rw [h0, nodesA_nil] at this; exact this
            rw [node_0 ok hc0, b3, Bool.true_and] at hres
            simp only [go_sem, Nat.reduceEqDiff, Nat.reduceAdd, Nat.reduceSub, Nat.reduceLT, Nat.reduceBEq, Nat.reduceLeDiff, ↓reduceIte, Int.reduceToNat, Int.reduceLE, Int.reduceLT, Int.reduceEq, reduceCtorEq, h1, left_mp, mfind_ents]
            exact ret_same ⟨by rw [hres], left - 1, rfl, fun e => by rw [hnn]; omega⟩
          · have hz := ok_node (left := left) (deep := deep) (V := hasB V) (L := hasB L) (ds := p.ds) (pf := p.pf) (t := t) (by rw [node_0 ok hc0, b3, Bool.false_and])
            exact ret_same ⟨by rw [hz], left - 1, rfl, fun e => by rw [hz] at e; cases e⟩
        · have hz := ok_node (left := left) (deep := deep) (V := hasB V) (L := hasB L) (ds := p.ds) (pf := p.pf) (t := t) (node_cls (by rw [ok]; decide) (by rw [ok]; decide) (by simpa using bc))
          exact ret_same ⟨by rw [hz], left - 1, rfl, fun e => by rw [hz] at e; cases e⟩
      have o0 := ok
      clear ok
      by_cases ok : t.op = 1
      · simp only [go_sem, Nat.reduceEqDiff, Nat.reduceAdd, Nat.reduceSub, Nat.reduceLT, Nat.reduceBEq, Nat.reduceLeDiff, ↓reduceIte, Int.reduceToNat, Int.reduceLE, Int.reduceLT, Int.reduceEq, reduceCtorEq, ok, List.length_map]
        refine brK_mk (fun bc => ?_) (fun bc => ?_) <;> simp only [go_sem, Nat.reduceEqDiff, Nat.reduceAdd, Nat.reduceSub, Nat.reduceLT, Nat.reduceBEq, Nat.reduceLeDiff, ↓reduceIte, Int.reduceToNat, Int.reduceLE, Int.reduceLT, Int.reduceEq, reduceCtorEq, bc, ok]
        · have hc0 : t.cls.length = 0 := by simpa using bc
          have hcn : t.cls = [] := List.eq_nil_of_length_eq_zero hc0
          have f := fields_calls t true false false 0 (leftHp hp lb (left - 1))
          simp only [TermG.av, TermG.cs_eq, ok] at f
          refine callX_by f ?_
          clear f
          rintro r hp1 ⟨rfl, rfl⟩
          simp only [go_sem, Nat.reduceEqDiff, Nat.reduceAdd, Nat.reduceSub, Nat.reduceLT, Nat.reduceBEq, Nat.reduceLeDiff, ↓reduceIte, Int.reduceToNat, Int.reduceLE, Int.reduceLT, Int.reduceEq, reduceCtorEq, List.length_map]
          cases b3 : fieldsB t true false false 0 with
          | false =>
            have hz := ok_node (left := left) (deep := deep) (V := hasB V) (L := hasB L) (ds := p.ds) (pf := p.pf) (t := t) (by rw [node_1 ok hc0, b3])
            exact ret_same ⟨by rw [hz], left - 1, rfl, fun e => by rw [hz] at e; cases e⟩
          | true =>
            have hres := ok_none (ds := p.ds) (pf := p.pf) (V := hasB V) (L := hasB L) hl hd (List.eq_nil_of_length_eq_zero (by have := fields_len b3; omega)) hcn (by rw [ok]; decide) (by rw [ok]; decide)
            have hnn : nodesT t = 1 := by have h0 : t.args = [] := List.eq_nil_of_length_eq_zero (by have := fields_len b3; omega); have := nodes_args hcn; rw [h0, nodesA_nil] at this; exact this
            rw [node_1 ok hc0, b3] at hres
            exact ret_same ⟨by rw [hres], left - 1, rfl, fun e => by rw [hnn]; omega⟩
        · have hz := ok_node (left := left) (deep := deep) (V := hasB V) (L := hasB L) (ds := p.ds) (pf := p.pf) (t := t) (node_cls (by rw [ok]; decide) (by rw [ok]; decide) (by simpa using bc))
          exact ret_same ⟨by rw [hz], left - 1, rfl, fun e => by rw [hz] at e; cases e⟩
      have o1 := ok
      clear ok
      by_cases ok : t.op = 2
      · simp only [go_sem, Nat.reduceEqDiff, Nat.reduceAdd, Nat.reduceSub, Nat.reduceLT, Nat.reduceBEq, Nat.reduceLeDiff, ↓reduceIte, Int.reduceToNat, Int.reduceLE, Int.reduceLT, Int.reduceEq, reduceCtorEq, ok, List.length_map]
        refine brK_mk (fun bc => ?_) (fun bc => ?_) <;> simp only [go_sem, Nat.reduceEqDiff, Nat.reduceAdd, Nat.reduceSub, Nat.reduceLT, Nat.reduceBEq, Nat.reduceLeDiff, ↓reduceIte, Int.reduceToNat, Int.reduceLE, Int.reduceLT, Int.reduceEq, reduceCtorEq, bc, ok]
        · have hc0 : t.cls.length = 0 := by simpa using bc
          have hcn : t.cls = [] := List.eq_nil_of_length_eq_zero hc0
          have f := fields_calls t true false false 2 (leftHp hp lb (left - 1))
          simp only [TermG.av, TermG.cs_eq, ok] at f
          refine callX_by f ?_
          clear f
          rintro r hp1 ⟨rfl, rfl⟩
          simp only [go_sem, Nat.reduceEqDiff, Nat.reduceAdd, Nat.reduceSub, Nat.reduceLT, Nat.reduceBEq, Nat.reduceLeDiff, ↓reduceIte, Int.reduceToNat, Int.reduceLE, Int.reduceLT, Int.reduceEq, reduceCtorEq, List.length_map]
          refine brK_mk (fun b3 => ?_) (fun b3 => ?_) <;> simp only [go_sem, Nat.reduceEqDiff, Nat.reduceAdd, Nat.reduceSub, Nat.reduceLT, Nat.reduceBEq, Nat.reduceLeDiff, ↓reduceIte, Int.reduceToNat, Int.reduceLE, Int.reduceLT, Int.reduceEq, reduceCtorEq, b3]
          · refine brK_mk (fun b4 => ?_) (fun b4 => ?_) <;> simp only [go_sem, Nat.reduceEqDiff, Nat.reduceAdd, Nat.reduceSub, Nat.reduceLT, Nat.reduceBEq, Nat.reduceLeDiff, ↓reduceIte, Int.reduceToNat, Int.reduceLE, Int.reduceLT, Int.reduceEq, reduceCtorEq, b4]
            · refine brK_mk (fun b5 => ?_) (fun b5 => ?_) <;> simp only [go_sem, Nat.reduceEqDiff, Nat.reduceAdd, Nat.reduceSub, Nat.reduceLT, Nat.reduceBEq, Nat.reduceLeDiff, ↓reduceIte, Int.reduceToNat, Int.reduceLE, Int.reduceLT, Int.reduceEq, reduceCtorEq, b5]
              · have hnode : nodeB p.ds p.pf (hasB V) (hasB L) t = true := by rw [node_2 ok hc0, b3, b4, b5]; rfl
                have c := all_calls hv t.ha t.args hargs hp bv bl lb V L (left - 1) deep hg h1 h2 (by omega) (by omega) h5 hd
                simp only [termsAV, ptrAV, ProgG.av, ProgG.cs, scopeAV] at c
                have hres := ok_all (ds := p.ds) (pf := p.pf) (V := hasB V) (L := hasB L) hl hd hcn (by rw [ok]; decide) (by rw [ok]; decide)
                rw [hnode, Bool.true_and] at hres
                refine callX_by c ?_
                rintro r hp1 ⟨rfl, lf, rfl, hlf⟩
                simp only [go_sem, Nat.reduceEqDiff, Nat.reduceAdd, Nat.reduceSub, Nat.reduceLT, Nat.reduceBEq, Nat.reduceLeDiff, ↓reduceIte, Int.reduceToNat, Int.reduceLE, Int.reduceLT, Int.reduceEq, reduceCtorEq]
                exact ret_same ⟨by rw [hres], lf, rfl, fun e => by rw [hres] at e; have := hlf e; have := nodes_args hcn; omega⟩
              · have hz := ok_node (left := left) (deep := deep) (V := hasB V) (L := hasB L) (ds := p.ds) (pf := p.pf) (t := t) (by rw [node_2 ok hc0, b5, Bool.and_false, Bool.and_false])
                exact ret_same ⟨by rw [hz], left - 1, rfl, fun e => by rw [hz] at e; cases e⟩
            · have hz := ok_node (left := left) (deep := deep) (V := hasB V) (L := hasB L) (ds := p.ds) (pf := p.pf) (t := t) (by rw [node_2 ok hc0, b4, Bool.false_and, Bool.and_false])
              exact ret_same ⟨by rw [hz], left - 1, rfl, fun e => by rw [hz] at e; cases e⟩
          · have hz := ok_node (left := left) (deep := deep) (V := hasB V) (L := hasB L) (ds := p.ds) (pf := p.pf) (t := t) (by rw [node_2 ok hc0, b3, Bool.false_and])
            exact ret_same ⟨by rw [hz], left - 1, rfl, fun e => by rw [hz] at e; cases e⟩
        · have hz := ok_node (left := left) (deep := deep) (V := hasB V) (L := hasB L) (ds := p.ds) (pf := p.pf) (t := t) (node_cls (by rw [ok]; decide) (by rw [ok]; decide) (by simpa using bc))
          exact ret_same ⟨by rw [hz], left - 1, rfl, fun e => by rw [hz] at e; cases e⟩
      have o2 := ok
      clear ok
      by_cases ok : t.op = 3
      · simp only [go_sem, Nat.reduceEqDiff, Nat.reduceAdd, Nat.reduceSub, Nat.reduceLT, Nat.reduceBEq, Nat.reduceLeDiff, ↓reduceIte, Int.reduceToNat, Int.reduceLE, Int.reduceLT, Int.reduceEq, reduceCtorEq, ok, List.length_map]
        refine brK_mk (fun bc => ?_) (fun bc => ?_) <;> simp only [go_sem, Nat.reduceEqDiff, Nat.reduceAdd, Nat.reduceSub, Nat.reduceLT, Nat.reduceBEq, Nat.reduceLeDiff, ↓reduceIte, Int.reduceToNat, Int.reduceLE, Int.reduceLT, Int.reduceEq, reduceCtorEq, bc, ok]
        · have hc0 : t.cls.length = 0 := by simpa using bc
          have hcn : t.cls = [] := List.eq_nil_of_length_eq_zero hc0
          have f := fields_calls t false false false 3 (leftHp hp lb (left - 1))
          simp only [TermG.av, TermG.cs_eq, ok] at f
          refine callX_by f ?_
          clear f
          rintro r hp1 ⟨rfl, rfl⟩
          simp only [go_sem, Nat.reduceEqDiff, Nat.reduceAdd, Nat.reduceSub, Nat.reduceLT, Nat.reduceBEq, Nat.reduceLeDiff, ↓reduceIte, Int.reduceToNat, Int.reduceLE, Int.reduceLT, Int.reduceEq, reduceCtorEq, List.length_map]
          refine brK_mk (fun b3 => ?_) (fun b3 => ?_) <;> simp only [go_sem, Nat.reduceEqDiff, Nat.reduceAdd, Nat.reduceSub, Nat.reduceLT, Nat.reduceBEq, Nat.reduceLeDiff, ↓reduceIte, Int.reduceToNat, Int.reduceLE, Int.reduceLT, Int.reduceEq, reduceCtorEq, b3]
          · have hnode : nodeB p.ds p.pf (hasB V) (hasB L) t = true := by rw [node_3 ok hc0, b3]
            have c := all_calls hv t.ha t.args hargs hp bv bl lb V L (left - 1) deep hg h1 h2 (by omega) (by omega) h5 hd
            simp only [termsAV, ptrAV, ProgG.av, ProgG.cs, scopeAV] at c
            have hres := ok_all (ds := p.ds) (pf := p.pf) (V := hasB V) (L := hasB L) hl hd hcn (by rw [ok]; decide) (by rw [ok]; decide)
            rw [hnode, Bool.true_and] at hres
            refine callX_by c ?_
            rintro r hp1 ⟨rfl, lf, rfl, hlf⟩
            simp only [go_sem, Nat.reduceEqDiff, Nat.reduceAdd, Nat.reduceSub, Nat.reduceLT, Nat.reduceBEq, Nat.reduceLeDiff, ↓reduceIte, Int.reduceToNat, Int.reduceLE, Int.reduceLT, Int.reduceEq, reduceCtorEq]
            exact ret_same ⟨by rw [hres], lf, rfl, fun e => by rw [hres] at e; have := hlf e; have := nodes_args hcn; omega⟩
          · have hz := ok_node (left := left) (deep := deep) (V := hasB V) (L := hasB L) (ds := p.ds) (pf := p.pf) (t := t) (by rw [node_3 ok hc0, b3])
            exact ret_same ⟨by rw [hz], left - 1, rfl, fun e => by rw [hz] at e; cases e⟩
        · have hz := ok_node (left := left) (deep := deep) (V := hasB V) (L := hasB L) (ds := p.ds) (pf := p.pf) (t := t) (node_cls (by rw [ok]; decide) (by rw [ok]; decide) (by simpa using bc))
          exact ret_same ⟨by rw [hz], left - 1, rfl, fun e => by rw [hz] at e; cases e⟩
      have o3 := ok
      clear ok
      by_cases ok : t.op = 10
      · simp only [go_sem, Nat.reduceEqDiff, Nat.reduceAdd, Nat.reduceSub, Nat.reduceLT, Nat.reduceBEq, Nat.reduceLeDiff, ↓reduceIte, Int.reduceToNat, Int.reduceLE, Int.reduceLT, Int.reduceEq, reduceCtorEq, ok, List.length_map]
        refine brK_mk (fun bc => ?_) (fun bc => ?_) <;> simp only [go_sem, Nat.reduceEqDiff, Nat.reduceAdd, Nat.reduceSub, Nat.reduceLT, Nat.reduceBEq, Nat.reduceLeDiff, ↓reduceIte, Int.reduceToNat, Int.reduceLE, Int.reduceLT, Int.reduceEq, reduceCtorEq, bc, ok]
        · have hc0 : t.cls.length = 0 := by simpa using bc
          have hcn : t.cls = [] := List.eq_nil_of_length_eq_zero hc0
          have f := fields_calls t false false false 2 (leftHp hp lb (left - 1))
          simp only [TermG.av, TermG.cs_eq, ok] at f
          refine callX_by f ?_
          clear f
          rintro r hp1 ⟨rfl, rfl⟩
          simp only [go_sem, Nat.reduceEqDiff, Nat.reduceAdd, Nat.reduceSub, Nat.reduceLT, Nat.reduceBEq, Nat.reduceLeDiff, ↓reduceIte, Int.reduceToNat, Int.reduceLE, Int.reduceLT, Int.reduceEq, reduceCtorEq, List.length_map]
          refine brK_mk (fun b3 => ?_) (fun b3 => ?_) <;> simp only [go_sem, Nat.reduceEqDiff, Nat.reduceAdd, Nat.reduceSub, Nat.reduceLT, Nat.reduceBEq, Nat.reduceLeDiff, ↓reduceIte, Int.reduceToNat, Int.reduceLE, Int.reduceLT, Int.reduceEq, reduceCtorEq, b3]
          · have hnode : nodeB p.ds p.pf (hasB V) (hasB L) t = true := by rw [node_10 ok hc0, b3]
            have c := all_calls hv t.ha t.args hargs hp bv bl lb V L (left - 1) deep hg h1 h2 (by omega) (by omega) h5 hd
            simp only [termsAV, ptrAV, ProgG.av, ProgG.cs, scopeAV] at c
            have hres := ok_all (ds := p.ds) (pf := p.pf) (V := hasB V) (L := hasB L) hl hd hcn (by rw [ok]; decide) (by rw [ok]; decide)
            rw [hnode, Bool.true_and] at hres
            refine callX_by c ?_
            rintro r hp1 ⟨rfl, lf, rfl, hlf⟩
            simp only [go_sem, Nat.reduceEqDiff, Nat.reduceAdd, Nat.reduceSub, Nat.reduceLT, Nat.reduceBEq, Nat.reduceLeDiff, ↓reduceIte, Int.reduceToNat, Int.reduceLE, Int.reduceLT, Int.reduceEq, reduceCtorEq]
            exact ret_same ⟨by rw [hres], lf, rfl, fun e => by rw [hres] at e; have := hlf e; have := nodes_args hcn; omega⟩
          · have hz := ok_node (left := left) (deep := deep) (V := hasB V) (L := hasB L) (ds := p.ds) (pf := p.pf) (t := t) (by rw [node_10 ok hc0, b3])
            exact ret_same ⟨by rw [hz], left - 1, rfl, fun e => by rw [hz] at e; cases e⟩
        · have hz := ok_node (left := left) (deep := deep) (V := hasB V) (L := hasB L) (ds := p.ds) (pf := p.pf) (t := t) (node_cls (by rw [ok]; decide) (by rw [ok]; decide) (by simpa using bc))
          exact ret_same ⟨by rw [hz], left - 1, rfl, fun e => by rw [hz] at e; cases e⟩
      have o10 := ok
      clear ok
      by_cases ok : t.op = 5
      · simp only [go_sem, Nat.reduceEqDiff, Nat.reduceAdd, Nat.reduceSub, Nat.reduceLT, Nat.reduceBEq, Nat.reduceLeDiff, ↓reduceIte, Int.reduceToNat, Int.reduceLE, Int.reduceLT, Int.reduceEq, reduceCtorEq, ok, List.length_map]
        have f := fields_calls t false false true 1 (leftHp hp lb (left - 1))
        simp only [TermG.av, TermG.cs_eq, ok] at f
        refine callX_by f ?_
        clear f
        rintro r hp1 ⟨rfl, rfl⟩
        simp only [go_sem, Nat.reduceEqDiff, Nat.reduceAdd, Nat.reduceSub, Nat.reduceLT, Nat.reduceBEq, Nat.reduceLeDiff, ↓reduceIte, Int.reduceToNat, Int.reduceLE, Int.reduceLT, Int.reduceEq, reduceCtorEq, List.length_map]
        refine brK_mk (fun b3 => ?_) (fun b3 => ?_) <;> simp only [go_sem, Nat.reduceEqDiff, Nat.reduceAdd, Nat.reduceSub, Nat.reduceLT, Nat.reduceBEq, Nat.reduceLeDiff, ↓reduceIte, Int.reduceToNat, Int.reduceLE, Int.reduceLT, Int.reduceEq, reduceCtorEq, b3]
        · have c0 := kind_calls p t.ty false (leftHp hp lb (left - 1))
          simp only [ProgG.av, ProgG.cs, scopeAV] at c0
          refine callX_by c0 ?_
          clear c0
          rintro r hp1 ⟨rfl, rfl⟩
          simp only [go_sem, Nat.reduceEqDiff, Nat.reduceAdd, Nat.reduceSub, Nat.reduceLT, Nat.reduceBEq, Nat.reduceLeDiff, ↓reduceIte, Int.reduceToNat, Int.reduceLE, Int.reduceLT, Int.reduceEq, reduceCtorEq]
          refine brK_mk (fun b4 => ?_) (fun b4 => ?_) <;> simp only [go_sem, Nat.reduceEqDiff, Nat.reduceAdd, Nat.reduceSub, Nat.reduceLT, Nat.reduceBEq, Nat.reduceLeDiff, ↓reduceIte, Int.reduceToNat, Int.reduceLE, Int.reduceLT, Int.reduceEq, reduceCtorEq, b4]
          · have c := all_calls hv t.ha t.args hargs hp bv bl lb V L (left - 1) deep hg h1 h2 (by omega) (by omega) h5 hd
            simp only [termsAV, ptrAV, ProgG.av, ProgG.cs, scopeAV] at c
            refine callX_by c ?_
            rintro r hp1 ⟨rfl, lf, rfl, hlf⟩
            simp only [go_sem, Nat.reduceEqDiff, Nat.reduceAdd, Nat.reduceSub, Nat.reduceLT, Nat.reduceBEq, Nat.reduceLeDiff, ↓reduceIte, Int.reduceToNat, Int.reduceLE, Int.reduceLT, Int.reduceEq, reduceCtorEq]
            refine brK_mk (fun b5 => ?_) (fun b5 => ?_) <;> simp only [go_sem, Nat.reduceEqDiff, Nat.reduceAdd, Nat.reduceSub, Nat.reduceLT, Nat.reduceBEq, Nat.reduceLeDiff, ↓reduceIte, Int.reduceToNat, Int.reduceLE, Int.reduceLT, Int.reduceEq, reduceCtorEq, b5]
            · have := hlf b5
              subst this
              have hA := resA_iff.1 b5
              have hres : okB left deep (nodesT t) (depthT t) (validT p.ds p.pf (hasB V) (hasB L) t) = _ := ok_5 hl hd ok
              rw [b3, b4, b5, Bool.true_and, Bool.true_and, Bool.true_and] at hres
              clear c
              have c := clauses_calls hv t hcls (data_ty b4).1 (data_ty b4).2 hp bv bl lb V L (left - 1 - nodesA t.args) deep hg h1 h2 (by omega) (by omega) h5 hd
              simp only [TermG.av, TermG.cs_eq, ok, ptrAV, ProgG.av, ProgG.cs, scopeAV] at c
              refine callX_by c ?_
              rintro r hp1 ⟨rfl, lf2, rfl, hlf2⟩
              simp only [go_sem, Nat.reduceEqDiff, Nat.reduceAdd, Nat.reduceSub, Nat.reduceLT, Nat.reduceBEq, Nat.reduceLeDiff, ↓reduceIte, Int.reduceToNat, Int.reduceLE, Int.reduceLT, Int.reduceEq, reduceCtorEq]
              exact ret_same ⟨by rw [hres], lf2, rfl, fun e => by rw [hres] at e; have := hlf2 e; have := nodesT_eq t; omega⟩
            · have hz : okB left deep (nodesT t) (depthT t) (validT p.ds p.pf (hasB V) (hasB L) t) = false := by rw [ok_5 hl hd ok, b5, Bool.false_and, Bool.and_false, Bool.and_false]
              exact ret_same ⟨by rw [hz], lf, rfl, fun e => by rw [hz] at e; cases e⟩
          · have hz : okB left deep (nodesT t) (depthT t) (validT p.ds p.pf (hasB V) (hasB L) t) = false := by rw [ok_5 hl hd ok, b4, Bool.false_and, Bool.and_false]
            exact ret_same ⟨by rw [hz], left - 1, rfl, fun e => by rw [hz] at e; cases e⟩
        · have hz : okB left deep (nodesT t) (depthT t) (validT p.ds p.pf (hasB V) (hasB L) t) = false := by rw [ok_5 hl hd ok, b3, Bool.false_and]
          exact ret_same ⟨by rw [hz], left - 1, rfl, fun e => by rw [hz] at e; cases e⟩
      have o5 := ok
      clear ok
      by_cases ok : t.op = 7
      · simp only [go_sem, Nat.reduceEqDiff, Nat.reduceAdd, Nat.reduceSub, Nat.reduceLT, Nat.reduceBEq, Nat.reduceLeDiff, ↓reduceIte, Int.reduceToNat, Int.reduceLE, Int.reduceLT, Int.reduceEq, reduceCtorEq, ok, List.length_map]
        have f := fields_calls t false false true 0 (leftHp hp lb (left - 1))
        simp only [TermG.av, TermG.cs_eq, ok] at f
        refine callX_by f ?_
        clear f
        rintro r hp1 ⟨rfl, rfl⟩
        simp only [go_sem, Nat.reduceEqDiff, Nat.reduceAdd, Nat.reduceSub, Nat.reduceLT, Nat.reduceBEq, Nat.reduceLeDiff, ↓reduceIte, Int.reduceToNat, Int.reduceLE, Int.reduceLT, Int.reduceEq, reduceCtorEq, List.length_map]
        refine brK_mk (fun b3 => ?_) (fun b3 => ?_) <;> simp only [go_sem, Nat.reduceEqDiff, Nat.reduceAdd, Nat.reduceSub, Nat.reduceLT, Nat.reduceBEq, Nat.reduceLeDiff, ↓reduceIte, Int.reduceToNat, Int.reduceLE, Int.reduceLT, Int.reduceEq, reduceCtorEq, b3]
        · have ha0 : t.args = [] := List.eq_nil_of_length_eq_zero (by have := fields_len b3; omega)
          have hn0 : nodesA t.args = 0 := by rw [ha0, nodesA_nil]
          have c0 := kind_calls p t.ty true (leftHp hp lb (left - 1))
          simp only [ProgG.av, ProgG.cs, scopeAV] at c0
          refine callX_by c0 ?_
          clear c0
          rintro r hp1 ⟨rfl, rfl⟩
          simp only [go_sem, Nat.reduceEqDiff, Nat.reduceAdd, Nat.reduceSub, Nat.reduceLT, Nat.reduceBEq, Nat.reduceLeDiff, ↓reduceIte, Int.reduceToNat, Int.reduceLE, Int.reduceLT, Int.reduceEq, reduceCtorEq]
          refine brK_mk (fun b4 => ?_) (fun b4 => ?_) <;> simp only [go_sem, Nat.reduceEqDiff, Nat.reduceAdd, Nat.reduceSub, Nat.reduceLT, Nat.reduceBEq, Nat.reduceLeDiff, ↓reduceIte, Int.reduceToNat, Int.reduceLE, Int.reduceLT, Int.reduceEq, reduceCtorEq, b4]
          · have hres : okB left deep (nodesT t) (depthT t) (validT p.ds p.pf (hasB V) (hasB L) t) = _ := ok_7 hl hd ok ha0
            rw [b3, b4, Bool.true_and, Bool.true_and] at hres
            have c := clauses_calls hv t hcls (data_ty b4).1 (data_ty b4).2 hp bv bl lb V L (left - 1) deep hg h1 h2 (by omega) (by omega) h5 hd
            simp only [TermG.av, TermG.cs_eq, ok, ptrAV, ProgG.av, ProgG.cs, scopeAV] at c
            refine callX_by c ?_
            rintro r hp1 ⟨rfl, lf2, rfl, hlf2⟩
            simp only [go_sem, Nat.reduceEqDiff, Nat.reduceAdd, Nat.reduceSub, Nat.reduceLT, Nat.reduceBEq, Nat.reduceLeDiff, ↓reduceIte, Int.reduceToNat, Int.reduceLE, Int.reduceLT, Int.reduceEq, reduceCtorEq]
            exact ret_same ⟨by rw [hres], lf2, rfl, fun e => by rw [hres] at e; have := hlf2 e; have := nodesT_eq t; omega⟩
          · have hz : okB left deep (nodesT t) (depthT t) (validT p.ds p.pf (hasB V) (hasB L) t) = false := by rw [ok_7 hl hd ok ha0, b4, Bool.false_and, Bool.and_false]
            exact ret_same ⟨by rw [hz], left - 1, rfl, fun e => by rw [hz] at e; cases e⟩
        · have hz := ok_node (left := left) (deep := deep) (V := hasB V) (L := hasB L) (ds := p.ds) (pf := p.pf) (t := t) (by rw [node_7 ok, b3, Bool.false_and])
          exact ret_same ⟨by rw [hz], left - 1, rfl, fun e => by rw [hz] at e; cases e⟩
      have o7 := ok
      clear ok
      by_cases ok : t.op = 12
      · simp only [go_sem, Nat.reduceEqDiff, Nat.reduceAdd, Nat.reduceSub, Nat.reduceLT, Nat.reduceBEq, Nat.reduceLeDiff, ↓reduceIte, Int.reduceToNat, Int.reduceLE, Int.reduceLT, Int.reduceEq, reduceCtorEq, ok, List.length_map]
        refine brK_mk (fun bc => ?_) (fun bc => ?_) <;> simp only [go_sem, Nat.reduceEqDiff, Nat.reduceAdd, Nat.reduceSub, Nat.reduceLT, Nat.reduceBEq, Nat.reduceLeDiff, ↓reduceIte, Int.reduceToNat, Int.reduceLE, Int.reduceLT, Int.reduceEq, reduceCtorEq, bc, ok]
        · have hc0 : t.cls.length = 0 := by simpa using bc
          have hcn : t.cls = [] := List.eq_nil_of_length_eq_zero hc0
          have f := fields_calls t false true true 1 (leftHp hp lb (left - 1))
          simp only [TermG.av, TermG.cs_eq, ok] at f
          refine callX_by f ?_
          clear f
          rintro r hp1 ⟨rfl, rfl⟩
          simp only [go_sem, Nat.reduceEqDiff, Nat.reduceAdd, Nat.reduceSub, Nat.reduceLT, Nat.reduceBEq, Nat.reduceLeDiff, ↓reduceIte, Int.reduceToNat, Int.reduceLE, Int.reduceLT, Int.reduceEq, reduceCtorEq, List.length_map]
          refine brK_mk (fun b3 => ?_) (fun b3 => ?_) <;> simp only [go_sem, Nat.reduceEqDiff, Nat.reduceAdd, Nat.reduceSub, Nat.reduceLT, Nat.reduceBEq, Nat.reduceLeDiff, ↓reduceIte, Int.reduceToNat, Int.reduceLE, Int.reduceLT, Int.reduceEq, reduceCtorEq, b3]
          · simp only [go_sem, Nat.reduceEqDiff, Nat.reduceAdd, Nat.reduceSub, Nat.reduceLT, Nat.reduceBEq, Nat.reduceLeDiff, ↓reduceIte, Int.reduceToNat, Int.reduceLE, Int.reduceLT, Int.reduceEq, reduceCtorEq, h2, left_mp, mfind_ents]
            refine brK_mk (fun b4 => ?_) (fun b4 => ?_) <;> simp only [go_sem, Nat.reduceEqDiff, Nat.reduceAdd, Nat.reduceSub, Nat.reduceLT, Nat.reduceBEq, Nat.reduceLeDiff, ↓reduceIte, Int.reduceToNat, Int.reduceLE, Int.reduceLT, Int.reduceEq, reduceCtorEq, b4]
            · have c0 := typ_calls p t.ty (leftHp hp lb (left - 1))
              simp only [ProgG.av, ProgG.cs, scopeAV] at c0
              refine callX_by c0 ?_
              clear c0
              rintro r hp1 ⟨rfl, rfl⟩
              simp only [go_sem, Nat.reduceEqDiff, Nat.reduceAdd, Nat.reduceSub, Nat.reduceLT, Nat.reduceBEq, Nat.reduceLeDiff, ↓reduceIte, Int.reduceToNat, Int.reduceLE, Int.reduceLT, Int.reduceEq, reduceCtorEq]
              refine brK_mk (fun b5 => ?_) (fun b5 => ?_) <;> simp only [go_sem, Nat.reduceEqDiff, Nat.reduceAdd, Nat.reduceSub, Nat.reduceLT, Nat.reduceBEq, Nat.reduceLeDiff, ↓reduceIte, Int.reduceToNat, Int.reduceLE, Int.reduceLT, Int.reduceEq, reduceCtorEq, b5]
              · have hnode : nodeB p.ds p.pf (hasB V) (hasB L) t = true := by rw [node_12 ok hc0, b3, b4, b5]; rfl
                have c := all_calls hv t.ha t.args hargs hp bv bl lb V L (left - 1) deep hg h1 h2 (by omega) (by omega) h5 hd
                simp only [termsAV, ptrAV, ProgG.av, ProgG.cs, scopeAV] at c
                have hres := ok_all (ds := p.ds) (pf := p.pf) (V := hasB V) (L := hasB L) hl hd hcn (by rw [ok]; decide) (by rw [ok]; decide)
                rw [hnode, Bool.true_and] at hres
                refine callX_by c ?_
                rintro r hp1 ⟨rfl, lf, rfl, hlf⟩
                simp only [go_sem, Nat.reduceEqDiff, Nat.reduceAdd, Nat.reduceSub, Nat.reduceLT, Nat.reduceBEq, Nat.reduceLeDiff, ↓reduceIte, Int.reduceToNat, Int.reduceLE, Int.reduceLT, Int.reduceEq, reduceCtorEq]
                exact ret_same ⟨by rw [hres], lf, rfl, fun e => by rw [hres] at e; have := hlf e; have := nodes_args hcn; omega⟩
              · have hz := ok_node (left := left) (deep := deep) (V := hasB V) (L := hasB L) (ds := p.ds) (pf := p.pf) (t := t) (by rw [node_12 ok hc0, b5, Bool.and_false, Bool.and_false])
                exact ret_same ⟨by rw [hz], left - 1, rfl, fun e => by rw [hz] at e; cases e⟩
            · have hz := ok_node (left := left) (deep := deep) (V := hasB V) (L := hasB L) (ds := p.ds) (pf := p.pf) (t := t) (by rw [node_12 ok hc0, b4, Bool.false_and, Bool.and_false])
              exact ret_same ⟨by rw [hz], left - 1, rfl, fun e => by rw [hz] at e; cases e⟩
          · have hz := ok_node (left := left) (deep := deep) (V := hasB V) (L := hasB L) (ds := p.ds) (pf := p.pf) (t := t) (by rw [node_12 ok hc0, b3, Bool.false_and])
            exact ret_same ⟨by rw [hz], left - 1, rfl, fun e => by rw [hz] at e; cases e⟩
        · have hz := ok_node (left := left) (deep := deep) (V := hasB V) (L := hasB L) (ds := p.ds) (pf := p.pf) (t := t) (node_cls (by rw [ok]; decide) (by rw [ok]; decide) (by simpa using bc))
          exact ret_same ⟨by rw [hz], left - 1, rfl, fun e => by rw [hz] at e; cases e⟩
      have o12 := ok
      clear ok
      by_cases ok : t.op = 8
      · simp only [go_sem, Nat.reduceEqDiff, Nat.reduceAdd, Nat.reduceSub, Nat.reduceLT, Nat.reduceBEq, Nat.reduceLeDiff, ↓reduceIte, Int.reduceToNat, Int.reduceLE, Int.reduceLT, Int.reduceEq, reduceCtorEq, ok, List.length_map]
        refine brK_mk (fun bc => ?_) (fun bc => ?_) <;> simp only [go_sem, Nat.reduceEqDiff, Nat.reduceAdd, Nat.reduceSub, Nat.reduceLT, Nat.reduceBEq, Nat.reduceLeDiff, ↓reduceIte, Int.reduceToNat, Int.reduceLE, Int.reduceLT, Int.reduceEq, reduceCtorEq, bc, ok]
        · have hc0 : t.cls.length = 0 := by simpa using bc
          have hcn : t.cls = [] := List.eq_nil_of_length_eq_zero hc0
          refine draw_by (mu := [17]) (fun _ => True) (.take 0 (.br 1 (.take 2 (.take 3 (.take 4 (.br 5 (.take 6 (.take 7 (.take 8 (.take 9 (.take 10 (.br 11 (.take 12 (.take 13 (.take 14 (.take 15 (.take 16 (.take 17 (.take 18 (.take 19 (.take 20 (.take 21 (.take 22 (.br 23 (.take 24 (.take 25 (.take 26 (.take 27 (.take 28 (.take 29 (.take 32 (.take 33 (.take 34 (.take 35 (.take 36 (.take 37 (.take 38 (.br 30 (.br 31 (.br 39 (.take 40 (.take 41 (.done))) (.stop)) (.stop)) (.stop))))))))))))))) (.stop))))))))))))) (.stop))))))) (.stop))))) (.stop))) (by decide +kernel) trivial (by decide +kernel) (by decide +kernel) ?_
          simp only [go_sem, Nat.reduceEqDiff, Nat.reduceAdd, Nat.reduceSub, Nat.reduceLT, Nat.reduceBEq, Nat.reduceLeDiff, ↓reduceIte, Int.reduceToNat, Int.reduceLE, Int.reduceLT, Int.reduceEq, reduceCtorEq]
          have f := fields_calls t false true true 2 (leftHp hp lb (left - 1))
          simp only [TermG.av, TermG.cs_eq, ok] at f
          refine callX_by f ?_
          clear f
          rintro r hp1 ⟨rfl, rfl⟩
          simp only [go_sem, Nat.reduceEqDiff, Nat.reduceAdd, Nat.reduceSub, Nat.reduceLT, Nat.reduceBEq, Nat.reduceLeDiff, ↓reduceIte, Int.reduceToNat, Int.reduceLE, Int.reduceLT, Int.reduceEq, reduceCtorEq, List.length_map]
          refine brK_mk (fun b3 => ?_) (fun b3 => ?_) <;> simp only [go_sem, Nat.reduceEqDiff, Nat.reduceAdd, Nat.reduceSub, Nat.reduceLT, Nat.reduceBEq, Nat.reduceLeDiff, ↓reduceIte, Int.reduceToNat, Int.reduceLE, Int.reduceLT, Int.reduceEq, reduceCtorEq, b3]
          · obtain ⟨a0, a1, ha⟩ := len2 (l := t.args) (by have := fields_len b3; omega)
            have m0 : a0 ∈ t.args := by rw [ha]; simp
            have m1 : a1 ∈ t.args := by rw [ha]; simp
            refine callX_by (name_calls t.name _ hg) ?_
            rintro r hp1 ⟨rfl, rfl⟩
            simp only [go_sem, Nat.reduceEqDiff, Nat.reduceAdd, Nat.reduceSub, Nat.reduceLT, Nat.reduceBEq, Nat.reduceLeDiff, ↓reduceIte, Int.reduceToNat, Int.reduceLE, Int.reduceLT, Int.reduceEq, reduceCtorEq]
            refine brK_mk (fun b4 => ?_) (fun b4 => ?_) <;> simp only [go_sem, Nat.reduceEqDiff, Nat.reduceAdd, Nat.reduceSub, Nat.reduceLT, Nat.reduceBEq, Nat.reduceLeDiff, ↓reduceIte, Int.reduceToNat, Int.reduceLE, Int.reduceLT, Int.reduceEq, reduceCtorEq, b4]
            · have c0 := typ_calls p t.ty (leftHp hp lb (left - 1))
              simp only [ProgG.av, ProgG.cs, scopeAV] at c0
              refine callX_by c0 ?_
              clear c0
              rintro r hp1 ⟨rfl, rfl⟩
              simp only [go_sem, Nat.reduceEqDiff, Nat.reduceAdd, Nat.reduceSub, Nat.reduceLT, Nat.reduceBEq, Nat.reduceLeDiff, ↓reduceIte, Int.reduceToNat, Int.reduceLE, Int.reduceLT, Int.reduceEq, reduceCtorEq]
              refine brK_mk (fun b5 => ?_) (fun b5 => ?_) <;> simp only [go_sem, Nat.reduceEqDiff, Nat.reduceAdd, Nat.reduceSub, Nat.reduceLT, Nat.reduceBEq, Nat.reduceLeDiff, ↓reduceIte, Int.reduceToNat, Int.reduceLE, Int.reduceLT, Int.reduceEq, reduceCtorEq, b5]
              · have hnode : nodeB p.ds p.pf (hasB V) (hasB L) t = true := by rw [node_8 ok hc0, b3, b4, b5]; rfl
                have hres := ok_let (ds := p.ds) (pf := p.pf) (V := hasB V) (L := hasB L) hl hd ok ha hcn
                rw [hnode, Bool.true_and] at hres
                have hnt : nodesT t = 1 + nodesT a0 + nodesT a1 := by have := nodes_args hcn; rw [ha, nodesA_cons, nodesA_cons, nodesA_nil] at this; omega
                simp only [go_sem, Nat.reduceEqDiff, Nat.reduceAdd, Nat.reduceSub, Nat.reduceLT, Nat.reduceBEq, Nat.reduceLeDiff, ↓reduceIte, Int.reduceToNat, Int.reduceLE, Int.reduceLT, Int.reduceEq, reduceCtorEq, ha, List.map_cons, List.map_nil, List.getElem?_cons_zero, List.getElem?_cons_succ, TermG.av, TermG.cs_eq, hwd]
                have c := hv a0 (hargs a0 m0) hp bv bl lb V L (left - 1) (deep + 1) hg h1 h2 (by omega) (by omega) (by omega) (by omega)
                simp only [TermG.av, TermG.cs_eq, ptrAV, ProgG.av, ProgG.cs, scopeAV] at c
                refine callX_by c ?_
                clear c
                rintro r hp1 ⟨rfl, lf, rfl, hlf⟩
                simp only [go_sem, Nat.reduceEqDiff, Nat.reduceAdd, Nat.reduceSub, Nat.reduceLT, Nat.reduceBEq, Nat.reduceLeDiff, ↓reduceIte, Int.reduceToNat, Int.reduceLE, Int.reduceLT, Int.reduceEq, reduceCtorEq]
                refine brK_mk (fun b6 => ?_) (fun b6 => ?_) <;> simp only [go_sem, Nat.reduceEqDiff, Nat.reduceAdd, Nat.reduceSub, Nat.reduceLT, Nat.reduceBEq, Nat.reduceLeDiff, ↓reduceIte, Int.reduceToNat, Int.reduceLE, Int.reduceLT, Int.reduceEq, reduceCtorEq, b6, ha, List.map_cons, List.map_nil, List.getElem?_cons_zero, List.getElem?_cons_succ, TermG.av, TermG.cs_eq, hwd]
                · have := hlf b6
                  subst this
                  have hA := okB_iff.1 b6
                  rw [b6, Bool.true_and] at hres
                  refine ⟨rfl, by simp, fun hd' => ?_⟩
                  refine callX_by (with_calls (bv := bv) (bl := bl) (V := V) hd' [t.name] _ h1) ?_
                  rintro r hp1 ⟨b, rfl, hbn, rfl⟩
                  have hbn' : hp.mp b = none := hbn
                  have hbl : b ≠ bl := by rintro rfl; rw [h2] at hbn'; cases hbn'
                  rw [left_setSp]
                  simp only [go_sem, Nat.reduceEqDiff, Nat.reduceAdd, Nat.reduceSub, Nat.reduceLT, Nat.reduceBEq, Nat.reduceLeDiff, ↓reduceIte, Int.reduceToNat, Int.reduceLE, Int.reduceLT, Int.reduceEq, reduceCtorEq, scopeAV, ha, List.map_cons, List.map_nil, List.getElem?_cons_zero, List.getElem?_cons_succ, TermG.av, TermG.cs_eq, hwd]
                  have c := hv a1 (hargs a1 m1) ((hp.setSp ((9, 1, hd') :: hp.sp)).setMp b (ents (insL V [t.name]))) b bl lb (insL V [t.name]) L (left - 1 - nodesT a0) (deep + 1) hg (by simp [Hp.setMp]) (by simp [Hp.setMp, Hp.setSp, Ne.symm hbl, h2]) (by omega) (by omega) (by omega) (by omega)
                  rw [addL_ins, show addL (hasB V) [t.name] = addP (hasB V) t.name from by funext x; simp [addL, addP, hasB]] at c
                  simp only [TermG.av, TermG.cs_eq, ptrAV, ProgG.av, ProgG.cs, scopeAV] at c
                  refine callX_by c ?_
                  clear c
                  rintro r hp1 ⟨rfl, lf2, rfl, hlf2⟩
                  simp only [go_sem, Nat.reduceEqDiff, Nat.reduceAdd, Nat.reduceSub, Nat.reduceLT, Nat.reduceBEq, Nat.reduceLeDiff, ↓reduceIte, Int.reduceToNat, Int.reduceLE, Int.reduceLT, Int.reduceEq, reduceCtorEq]
                  exact ret_le (left_le2 hbn' _ _ _ _) ⟨by rw [hres], lf2, rfl, fun e => by rw [hres] at e; have := hlf2 e; omega⟩
                · have hz : okB left deep (nodesT t) (depthT t) (validT p.ds p.pf (hasB V) (hasB L) t) = false := by rw [hres, b6, Bool.false_and]
                  exact ret_same ⟨by rw [hz], lf, rfl, fun e => by rw [hz] at e; cases e⟩
              · have hz := ok_node (left := left) (deep := deep) (V := hasB V) (L := hasB L) (ds := p.ds) (pf := p.pf) (t := t) (by rw [node_8 ok hc0, b5, Bool.and_false, Bool.and_false])
                exact ret_same ⟨by rw [hz], left - 1, rfl, fun e => by rw [hz] at e; cases e⟩
            · have hz := ok_node (left := left) (deep := deep) (V := hasB V) (L := hasB L) (ds := p.ds) (pf := p.pf) (t := t) (by rw [node_8 ok hc0, b4, Bool.false_and, Bool.and_false])
              exact ret_same ⟨by rw [hz], left - 1, rfl, fun e => by rw [hz] at e; cases e⟩
          · have hz := ok_node (left := left) (deep := deep) (V := hasB V) (L := hasB L) (ds := p.ds) (pf := p.pf) (t := t) (by rw [node_8 ok hc0, b3, Bool.false_and])
            exact ret_same ⟨by rw [hz], left - 1, rfl, fun e => by rw [hz] at e; cases e⟩
        · have hz := ok_node (left := left) (deep := deep) (V := hasB V) (L := hasB L) (ds := p.ds) (pf := p.pf) (t := t) (node_cls (by rw [ok]; decide) (by rw [ok]; decide) (by simpa using bc))
          exact ret_same ⟨by rw [hz], left - 1, rfl, fun e => by rw [hz] at e; cases e⟩
      have o8 := ok
      clear ok
      by_cases ok : t.op = 11
      · simp only [go_sem, Nat.reduceEqDiff, Nat.reduceAdd, Nat.reduceSub, Nat.reduceLT, Nat.reduceBEq, Nat.reduceLeDiff, ↓reduceIte, Int.reduceToNat, Int.reduceLE, Int.reduceLT, Int.reduceEq, reduceCtorEq, ok, List.length_map]
        refine brK_mk (fun bc => ?_) (fun bc => ?_) <;> simp only [go_sem, Nat.reduceEqDiff, Nat.reduceAdd, Nat.reduceSub, Nat.reduceLT, Nat.reduceBEq, Nat.reduceLeDiff, ↓reduceIte, Int.reduceToNat, Int.reduceLE, Int.reduceLT, Int.reduceEq, reduceCtorEq, bc, ok]
        · have hc0 : t.cls.length = 0 := by simpa using bc
          have hcn : t.cls = [] := List.eq_nil_of_length_eq_zero hc0
          refine draw_by (mu := [17]) (fun _ => True) (.take 0 (.br 1 (.take 2 (.take 3 (.take 4 (.br 5 (.take 6 (.take 7 (.take 8 (.take 9 (.take 10 (.br 11 (.take 12 (.take 13 (.take 14 (.take 15 (.take 16 (.take 17 (.take 19 (.take 20 (.take 21 (.take 22 (.take 23 (.take 24 (.take 25 (.br 18 (.br 26 (.take 27 (.take 28 (.done))) (.stop)) (.stop))))))))))))))) (.stop))))))) (.stop))))) (.stop))) (by decide +kernel) trivial (by decide +kernel) (by decide +kernel) ?_
          simp only [go_sem, Nat.reduceEqDiff, Nat.reduceAdd, Nat.reduceSub, Nat.reduceLT, Nat.reduceBEq, Nat.reduceLeDiff, ↓reduceIte, Int.reduceToNat, Int.reduceLE, Int.reduceLT, Int.reduceEq, reduceCtorEq]
          have f := fields_calls t false true true 1 (leftHp hp lb (left - 1))
          simp only [TermG.av, TermG.cs_eq, ok] at f
          refine callX_by f ?_
          clear f
          rintro r hp1 ⟨rfl, rfl⟩
          simp only [go_sem, Nat.reduceEqDiff, Nat.reduceAdd, Nat.reduceSub, Nat.reduceLT, Nat.reduceBEq, Nat.reduceLeDiff, ↓reduceIte, Int.reduceToNat, Int.reduceLE, Int.reduceLT, Int.reduceEq, reduceCtorEq, List.length_map]
          refine brK_mk (fun b3 => ?_) (fun b3 => ?_) <;> simp only [go_sem, Nat.reduceEqDiff, Nat.reduceAdd, Nat.reduceSub, Nat.reduceLT, Nat.reduceBEq, Nat.reduceLeDiff, ↓reduceIte, Int.reduceToNat, Int.reduceLE, Int.reduceLT, Int.reduceEq, reduceCtorEq, b3]
          · obtain ⟨a0, ha⟩ := len1 (l := t.args) (by have := fields_len b3; omega)
            have m0 : a0 ∈ t.args := by rw [ha]; simp
            refine callX_by (name_calls t.name _ hg) ?_
            rintro r hp1 ⟨rfl, rfl⟩
            simp only [go_sem, Nat.reduceEqDiff, Nat.reduceAdd, Nat.reduceSub, Nat.reduceLT, Nat.reduceBEq, Nat.reduceLeDiff, ↓reduceIte, Int.reduceToNat, Int.reduceLE, Int.reduceLT, Int.reduceEq, reduceCtorEq]
            refine brK_mk (fun b4 => ?_) (fun b4 => ?_) <;> simp only [go_sem, Nat.reduceEqDiff, Nat.reduceAdd, Nat.reduceSub, Nat.reduceLT, Nat.reduceBEq, Nat.reduceLeDiff, ↓reduceIte, Int.reduceToNat, Int.reduceLE, Int.reduceLT, Int.reduceEq, reduceCtorEq, b4]
            · have c0 := typ_calls p t.ty (leftHp hp lb (left - 1))
              simp only [ProgG.av, ProgG.cs, scopeAV] at c0
              refine callX_by c0 ?_
              clear c0
              rintro r hp1 ⟨rfl, rfl⟩
              simp only [go_sem, Nat.reduceEqDiff, Nat.reduceAdd, Nat.reduceSub, Nat.reduceLT, Nat.reduceBEq, Nat.reduceLeDiff, ↓reduceIte, Int.reduceToNat, Int.reduceLE, Int.reduceLT, Int.reduceEq, reduceCtorEq]
              refine brK_mk (fun b5 => ?_) (fun b5 => ?_) <;> simp only [go_sem, Nat.reduceEqDiff, Nat.reduceAdd, Nat.reduceSub, Nat.reduceLT, Nat.reduceBEq, Nat.reduceLeDiff, ↓reduceIte, Int.reduceToNat, Int.reduceLE, Int.reduceLT, Int.reduceEq, reduceCtorEq, b5, ha, List.map_cons, List.map_nil, List.getElem?_cons_zero, List.getElem?_cons_succ, TermG.av, TermG.cs_eq, hwd]
              · have hnode : nodeB p.ds p.pf (hasB V) (hasB L) t = true := by rw [node_11 ok hc0, b3, b4, b5]; rfl
                have hres := ok_label (ds := p.ds) (pf := p.pf) (V := hasB V) (L := hasB L) hl hd ok ha hcn
                rw [hnode, Bool.true_and] at hres
                have hnt : nodesT t = 1 + nodesT a0 := by have := nodes_args hcn; rw [ha, nodesA_cons, nodesA_nil] at this; omega
                refine callX_by (label_calls (bv := bv) (bl := bl) (L := L) t.name _ h2) ?_
                rintro r hp1 ⟨b, rfl, hbn, rfl⟩
                have hbn' : hp.mp b = none := hbn
                have hbv : b ≠ bv := by rintro rfl; rw [h1] at hbn'; cases hbn'
                rw [left_setMp]
                simp only [go_sem, Nat.reduceEqDiff, Nat.reduceAdd, Nat.reduceSub, Nat.reduceLT, Nat.reduceBEq, Nat.reduceLeDiff, ↓reduceIte, Int.reduceToNat, Int.reduceLE, Int.reduceLT, Int.reduceEq, reduceCtorEq, scopeAV, ha, List.map_cons, List.map_nil, List.getElem?_cons_zero, List.getElem?_cons_succ, TermG.av, TermG.cs_eq, hwd]
                have c := hv a0 (hargs a0 m0) (hp.setMp b (ents (insB L t.name))) bv b lb V (insB L t.name) (left - 1) (deep + 1) hg (by simp [Hp.setMp, Ne.symm hbv, h1]) (by simp [Hp.setMp]) (by omega) (by omega) (by omega) (by omega)
                rw [addP_ins] at c
                simp only [TermG.av, TermG.cs_eq, ptrAV, ProgG.av, ProgG.cs, scopeAV] at c
                refine callX_by c ?_
                clear c
                rintro r hp1 ⟨rfl, lf, rfl, hlf⟩
                simp only [go_sem, Nat.reduceEqDiff, Nat.reduceAdd, Nat.reduceSub, Nat.reduceLT, Nat.reduceBEq, Nat.reduceLeDiff, ↓reduceIte, Int.reduceToNat, Int.reduceLE, Int.reduceLT, Int.reduceEq, reduceCtorEq]
                exact ret_le (left_le hbn' _ _ _) ⟨by rw [hres], lf, rfl, fun e => by rw [hres] at e; have := hlf e; omega⟩
              · have hz := ok_node (left := left) (deep := deep) (V := hasB V) (L := hasB L) (ds := p.ds) (pf := p.pf) (t := t) (by rw [node_11 ok hc0, b5, Bool.and_false, Bool.and_false])
                exact ret_same ⟨by rw [hz], left - 1, rfl, fun e => by rw [hz] at e; cases e⟩
            · have hz := ok_node (left := left) (deep := deep) (V := hasB V) (L := hasB L) (ds := p.ds) (pf := p.pf) (t := t) (by rw [node_11 ok hc0, b4, Bool.false_and, Bool.and_false])
              exact ret_same ⟨by rw [hz], left - 1, rfl, fun e => by rw [hz] at e; cases e⟩
          · have hz := ok_node (left := left) (deep := deep) (V := hasB V) (L := hasB L) (ds := p.ds) (pf := p.pf) (t := t) (by rw [node_11 ok hc0, b3, Bool.false_and])
            exact ret_same ⟨by rw [hz], left - 1, rfl, fun e => by rw [hz] at e; cases e⟩
        · have hz := ok_node (left := left) (deep := deep) (V := hasB V) (L := hasB L) (ds := p.ds) (pf := p.pf) (t := t) (node_cls (by rw [ok]; decide) (by rw [ok]; decide) (by simpa using bc))
          exact ret_same ⟨by rw [hz], left - 1, rfl, fun e => by rw [hz] at e; cases e⟩
      have o11 := ok
      clear ok
      by_cases ok : t.op = 9
      · simp only [go_sem, Nat.reduceEqDiff, Nat.reduceAdd, Nat.reduceSub, Nat.reduceLT, Nat.reduceBEq, Nat.reduceLeDiff, ↓reduceIte, Int.reduceToNat, Int.reduceLE, Int.reduceLT, Int.reduceEq, reduceCtorEq, ok, List.length_map]
        refine brK_mk (fun bc => ?_) (fun bc => ?_) <;> simp only [go_sem, Nat.reduceEqDiff, Nat.reduceAdd, Nat.reduceSub, Nat.reduceLT, Nat.reduceBEq, Nat.reduceLeDiff, ↓reduceIte, Int.reduceToNat, Int.reduceLE, Int.reduceLT, Int.reduceEq, reduceCtorEq, bc, ok]
        · have hc0 : t.cls.length = 0 := by simpa using bc
          have hcn : t.cls = [] := List.eq_nil_of_length_eq_zero hc0
          refine draw_by (mu := [17]) (fun _ => True) (.take 0 (.take 1 (.take 2 (.take 3 (.take 4 (.take 5 (.take 6 (.take 7 (.take 8 (.take 9 (.take 10 (.take 11 (.take 12 (.take 13 (.take 14 (.take 15 (.take 16 (.take 17 (.take 18 (.take 19 (.take 20 (.br 21 (.take 22 (.take 23 (.take 24 (.take 25 (.take 26 (.take 27 (.take 28 (.take 29 (.br 30 (.take 31 (.take 32 (.done))) (.stop)))))))))) (.stop))))))))))))))))))))))) (by decide +kernel) trivial (by decide +kernel) (by decide +kernel) ?_
          simp only [go_sem, Nat.reduceEqDiff, Nat.reduceAdd, Nat.reduceSub, Nat.reduceLT, Nat.reduceBEq, Nat.reduceLeDiff, ↓reduceIte, Int.reduceToNat, Int.reduceLE, Int.reduceLT, Int.reduceEq, reduceCtorEq]
          simp only [funsAV, List.length_map, go_sem, Nat.reduceEqDiff, Nat.reduceAdd, Nat.reduceSub, Nat.reduceLT, Nat.reduceBEq, Nat.reduceLeDiff, ↓reduceIte, Int.reduceToNat, Int.reduceLE, Int.reduceLT, Int.reduceEq, reduceCtorEq]
          refine brK_mk (fun b3 => ?_) (fun b3 => ?_) <;> simp only [go_sem, Nat.reduceEqDiff, Nat.reduceAdd, Nat.reduceSub, Nat.reduceLT, Nat.reduceBEq, Nat.reduceLeDiff, ↓reduceIte, Int.reduceToNat, Int.reduceLE, Int.reduceLT, Int.reduceEq, reduceCtorEq, b3]
          · refine brK_mk (fun b4 => ?_) (fun b4 => ?_) <;> simp only [go_sem, Nat.reduceEqDiff, Nat.reduceAdd, Nat.reduceSub, Nat.reduceLT, Nat.reduceBEq, Nat.reduceLeDiff, ↓reduceIte, Int.reduceToNat, Int.reduceLE, Int.reduceLT, Int.reduceEq, reduceCtorEq, b4]
            · obtain ⟨fu, hfu⟩ := someAt p.fs t.n.toNat (by simp at b3 b4; omega)
              have hpf : p.pf[t.n.toNat]? = some fu.params.length := by rw [ProgG.pf, List.getElem?_map, hfu]; rfl
              have h0 : 0 ≤ t.n := by simpa using b3
              simp only [go_sem, Nat.reduceEqDiff, Nat.reduceAdd, Nat.reduceSub, Nat.reduceLT, Nat.reduceBEq, Nat.reduceLeDiff, ↓reduceIte, Int.reduceToNat, Int.reduceLE, Int.reduceLT, Int.reduceEq, reduceCtorEq, mapAt FunG.av _ _ _ hfu, FunG.av, FunG.cs, paramsAV, List.length_map]
              refine ⟨h0, fun _ _ => h0, ?_⟩
              have f := fields_calls t true false false (fu.params.length : Int) (leftHp hp lb (left - 1))
              simp only [TermG.av, TermG.cs_eq, ok] at f
              refine callX_by f ?_
              clear f
              rintro r hp1 ⟨rfl, rfl⟩
              simp only [go_sem, Nat.reduceEqDiff, Nat.reduceAdd, Nat.reduceSub, Nat.reduceLT, Nat.reduceBEq, Nat.reduceLeDiff, ↓reduceIte, Int.reduceToNat, Int.reduceLE, Int.reduceLT, Int.reduceEq, reduceCtorEq]
              refine brK_mk (fun b5 => ?_) (fun b5 => ?_) <;> simp only [go_sem, Nat.reduceEqDiff, Nat.reduceAdd, Nat.reduceSub, Nat.reduceLT, Nat.reduceBEq, Nat.reduceLeDiff, ↓reduceIte, Int.reduceToNat, Int.reduceLE, Int.reduceLT, Int.reduceEq, reduceCtorEq, b5]
              · have hnode : nodeB p.ds p.pf (hasB V) (hasB L) t = true := by rw [node_9 ok hc0 hpf h0, b5]
                have c := all_calls hv t.ha t.args hargs hp bv bl lb V L (left - 1) deep hg h1 h2 (by omega) (by omega) h5 hd
                simp only [termsAV, ptrAV, ProgG.av, ProgG.cs, scopeAV, funsAV] at c
                have hres := ok_all (ds := p.ds) (pf := p.pf) (V := hasB V) (L := hasB L) hl hd hcn (by rw [ok]; decide) (by rw [ok]; decide)
                rw [hnode, Bool.true_and] at hres
                refine callX_by c ?_
                rintro r hp1 ⟨rfl, lf, rfl, hlf⟩
                simp only [go_sem, Nat.reduceEqDiff, Nat.reduceAdd, Nat.reduceSub, Nat.reduceLT, Nat.reduceBEq, Nat.reduceLeDiff, ↓reduceIte, Int.reduceToNat, Int.reduceLE, Int.reduceLT, Int.reduceEq, reduceCtorEq]
                exact ret_same ⟨by rw [hres], lf, rfl, fun e => by rw [hres] at e; have := hlf e; have := nodes_args hcn; omega⟩
              · have hz := ok_node (left := left) (deep := deep) (V := hasB V) (L := hasB L) (ds := p.ds) (pf := p.pf) (t := t) (by rw [node_9 ok hc0 hpf h0, b5])
                exact ret_same ⟨by rw [hz], left - 1, rfl, fun e => by rw [hz] at e; cases e⟩
            · have hz := ok_node (left := left) (deep := deep) (V := hasB V) (L := hasB L) (ds := p.ds) (pf := p.pf) (t := t) (node_9k ok (by rw [ProgG.pf, List.getElem?_map, List.getElem?_eq_none (by simp at b3 b4; omega)]; rfl))
              exact ret_same ⟨by rw [hz], left - 1, rfl, fun e => by rw [hz] at e; cases e⟩
          · have hz := ok_node (left := left) (deep := deep) (V := hasB V) (L := hasB L) (ds := p.ds) (pf := p.pf) (t := t) (node_9n ok (by simp at b3; omega))
            exact ret_same ⟨by rw [hz], left - 1, rfl, fun e => by rw [hz] at e; cases e⟩
        · have hz := ok_node (left := left) (deep := deep) (V := hasB V) (L := hasB L) (ds := p.ds) (pf := p.pf) (t := t) (node_cls (by rw [ok]; decide) (by rw [ok]; decide) (by simpa using bc))
          exact ret_same ⟨by rw [hz], left - 1, rfl, fun e => by rw [hz] at e; cases e⟩
      have o9 := ok
      clear ok
      by_cases ok : t.op = 4
      · simp only [go_sem, Nat.reduceEqDiff, Nat.reduceAdd, Nat.reduceSub, Nat.reduceLT, Nat.reduceBEq, Nat.reduceLeDiff, ↓reduceIte, Int.reduceToNat, Int.reduceLE, Int.reduceLT, Int.reduceEq, reduceCtorEq, ok, List.length_map]
        refine brK_mk (fun bc => ?_) (fun bc => ?_) <;> simp only [go_sem, Nat.reduceEqDiff, Nat.reduceAdd, Nat.reduceSub, Nat.reduceLT, Nat.reduceBEq, Nat.reduceLeDiff, ↓reduceIte, Int.reduceToNat, Int.reduceLE, Int.reduceLT, Int.reduceEq, reduceCtorEq, bc, ok]
        · have hc0 : t.cls.length = 0 := by simpa using bc
          have hcn : t.cls = [] := List.eq_nil_of_length_eq_zero hc0
          refine draw_by (mu := [17]) (fun _ => True) (.take 0 (.take 1 (.take 2 (.take 3 (.br 4 (.take 5 (.take 6 (.take 7 (.take 8 (.take 9 (.take 10 (.take 11 (.take 12 (.take 13 (.take 14 (.take 15 (.take 16 (.take 17 (.take 18 (.take 19 (.take 20 (.take 21 (.take 22 (.take 23 (.take 24 (.done))))))))))))))))))))) (.stop)))))) (by decide +kernel) trivial (by decide +kernel) (by decide +kernel) ?_
          simp only [go_sem, Nat.reduceEqDiff, Nat.reduceAdd, Nat.reduceSub, Nat.reduceLT, Nat.reduceBEq, Nat.reduceLeDiff, ↓reduceIte, Int.reduceToNat, Int.reduceLE, Int.reduceLT, Int.reduceEq, reduceCtorEq]
          have c0 := kind_calls p t.ty false (leftHp hp lb (left - 1))
          simp only [ProgG.av, ProgG.cs, scopeAV] at c0
          refine callX_by c0 ?_
          clear c0
          rintro r hp1 ⟨rfl, rfl⟩
          simp only [go_sem, Nat.reduceEqDiff, Nat.reduceAdd, Nat.reduceSub, Nat.reduceLT, Nat.reduceBEq, Nat.reduceLeDiff, ↓reduceIte, Int.reduceToNat, Int.reduceLE, Int.reduceLT, Int.reduceEq, reduceCtorEq]
          cases b3 : dataB p.ds t.ty false with
          | false =>
            simp only [go_sem, Nat.reduceEqDiff, Nat.reduceAdd, Nat.reduceSub, Nat.reduceLT, Nat.reduceBEq, Nat.reduceLeDiff, ↓reduceIte, Int.reduceToNat, Int.reduceLE, Int.reduceLT, Int.reduceEq, reduceCtorEq]
            have hz := ok_node (left := left) (deep := deep) (V := hasB V) (L := hasB L) (ds := p.ds) (pf := p.pf) (t := t) (node_4d ok b3)
            exact ret_same ⟨by rw [hz], left - 1, rfl, fun e => by rw [hz] at e; cases e⟩
          | true =>
            obtain ⟨ht1, ht2⟩ := data_ty b3
            have hwt : IntKind.i64.wrap (t.ty - 1) = t.ty - 1 := by simp only [maxLen] at hdl; exact IntWalk.i64_in _ (by omega)
            obtain ⟨d, hd0⟩ := someAt p.ds (t.ty - 1).toNat (by omega)
            have hxs : xtorsOf p.ds t.ty = d.xtors := by simp only [xtorsOf, hd0, Option.map_some, Option.getD_some]
            simp only [go_sem, Nat.reduceEqDiff, Nat.reduceAdd, Nat.reduceSub, Nat.reduceLT, Nat.reduceBEq, Nat.reduceLeDiff, ↓reduceIte, Int.reduceToNat, Int.reduceLE, Int.reduceLT, Int.reduceEq, reduceCtorEq, declsAV, hwt, mapAt DeclG.av _ _ _ hd0, DeclG.av, DeclG.cs, List.length_map]
            refine brK_mk (fun b4 => ?_) (fun b4 => ?_) <;> simp only [go_sem, Nat.reduceEqDiff, Nat.reduceAdd, Nat.reduceSub, Nat.reduceLT, Nat.reduceBEq, Nat.reduceLeDiff, ↓reduceIte, Int.reduceToNat, Int.reduceLE, Int.reduceLT, Int.reduceEq, reduceCtorEq, b4, declsAV, hwt, mapAt DeclG.av _ _ _ hd0, DeclG.av, DeclG.cs, List.length_map]
            · have hz := ok_node (left := left) (deep := deep) (V := hasB V) (L := hasB L) (ds := p.ds) (pf := p.pf) (t := t) (node_4h ok (by simp only [hasN]; rw [decide_eq_false (p := t.n ≥ 0) (by simp at b4; omega)]; simp))
              exact ret_same ⟨by rw [hz], left - 1, rfl, fun e => by rw [hz] at e; cases e⟩
            · refine ⟨by omega, fun _ _ => by omega, ?_⟩
              refine brK_mk (fun b5 => ?_) (fun b5 => ?_) <;> simp only [go_sem, Nat.reduceEqDiff, Nat.reduceAdd, Nat.reduceSub, Nat.reduceLT, Nat.reduceBEq, Nat.reduceLeDiff, ↓reduceIte, Int.reduceToNat, Int.reduceLE, Int.reduceLT, Int.reduceEq, reduceCtorEq, b5]
              · have hz := ok_node (left := left) (deep := deep) (V := hasB V) (L := hasB L) (ds := p.ds) (pf := p.pf) (t := t) (node_4h ok (by simp only [hasN, hxs]; rw [decide_eq_false (p := t.n < (d.xtors.length : Int)) (by simp at b5; omega)]; simp))
                exact ret_same ⟨by rw [hz], left - 1, rfl, fun e => by rw [hz] at e; cases e⟩
              · have n0 : 0 ≤ t.n := by simpa using b4
                have n1 : t.n < d.xtors.length := by simpa using b5
                obtain ⟨x, hx0⟩ := someAt d.xtors t.n.toNat (by omega)
                have hh : hasN p.ds t.ty t.n = true := by simp [hasN, hxs, ht1, ht2, n0, n1]
                have hx : (xtorsOf p.ds t.ty)[t.n.toNat]? = some x := by rw [hxs]; exact hx0
                refine draw_by (mu := [17]) (fun _ => True) (.take 0 (.take 1 (.take 2 (.take 3 (.take 4 (.take 5 (.take 6 (.take 7 (.take 8 (.take 9 (.take 10 (.take 11 (.br 12 (.take 13 (.done)) (.stop)))))))))))))) (by decide +kernel) trivial (by decide +kernel) (by decide +kernel) ?_
                simp only [go_sem, Nat.reduceEqDiff, Nat.reduceAdd, Nat.reduceSub, Nat.reduceLT, Nat.reduceBEq, Nat.reduceLeDiff, ↓reduceIte, Int.reduceToNat, Int.reduceLE, Int.reduceLT, Int.reduceEq, reduceCtorEq, hwt, mapAt DeclG.av _ _ _ hd0, DeclG.av, DeclG.cs, mapAt XtorG.av _ _ _ hx0, XtorG.av, XtorG.cs]
                refine ⟨by omega, fun _ _ => by omega, n0, fun _ _ => n0, ?_⟩
                refine callX_by (producers_calls x _) ?_
                rintro r hp1 ⟨⟨rfl, hpl⟩, rfl⟩
                simp only [go_sem, Nat.reduceEqDiff, Nat.reduceAdd, Nat.reduceSub, Nat.reduceLT, Nat.reduceBEq, Nat.reduceLeDiff, ↓reduceIte, Int.reduceToNat, Int.reduceLE, Int.reduceLT, Int.reduceEq, reduceCtorEq]
                have f := fields_calls t true false true (prodN x : Int) (leftHp hp lb (left - 1))
                simp only [TermG.av, TermG.cs_eq, ok] at f
                refine callX_by f ?_
                clear f
                rintro r hp1 ⟨rfl, rfl⟩
                simp only [go_sem, Nat.reduceEqDiff, Nat.reduceAdd, Nat.reduceSub, Nat.reduceLT, Nat.reduceBEq, Nat.reduceLeDiff, ↓reduceIte, Int.reduceToNat, Int.reduceLE, Int.reduceLT, Int.reduceEq, reduceCtorEq]
                refine brK_mk (fun b6 => ?_) (fun b6 => ?_) <;> simp only [go_sem, Nat.reduceEqDiff, Nat.reduceAdd, Nat.reduceSub, Nat.reduceLT, Nat.reduceBEq, Nat.reduceLeDiff, ↓reduceIte, Int.reduceToNat, Int.reduceLE, Int.reduceLT, Int.reduceEq, reduceCtorEq, b6]
                · have hnode : nodeB p.ds p.pf (hasB V) (hasB L) t = true := by rw [node_4 ok hc0 hx b3 hh, b6]
                  have c := all_calls hv t.ha t.args hargs hp bv bl lb V L (left - 1) deep hg h1 h2 (by omega) (by omega) h5 hd
                  simp only [termsAV, ptrAV, ProgG.av, ProgG.cs, scopeAV, declsAV] at c
                  have hres := ok_all (ds := p.ds) (pf := p.pf) (V := hasB V) (L := hasB L) hl hd hcn (by rw [ok]; decide) (by rw [ok]; decide)
                  rw [hnode, Bool.true_and] at hres
                  refine callX_by c ?_
                  rintro r hp1 ⟨rfl, lf, rfl, hlf⟩
                  simp only [go_sem, Nat.reduceEqDiff, Nat.reduceAdd, Nat.reduceSub, Nat.reduceLT, Nat.reduceBEq, Nat.reduceLeDiff, ↓reduceIte, Int.reduceToNat, Int.reduceLE, Int.reduceLT, Int.reduceEq, reduceCtorEq]
                  exact ret_same ⟨by rw [hres], lf, rfl, fun e => by rw [hres] at e; have := hlf e; have := nodes_args hcn; omega⟩
                · have hz := ok_node (left := left) (deep := deep) (V := hasB V) (L := hasB L) (ds := p.ds) (pf := p.pf) (t := t) (by rw [node_4 ok hc0 hx b3 hh, b6])
                  exact ret_same ⟨by rw [hz], left - 1, rfl, fun e => by rw [hz] at e; cases e⟩
        · have hz := ok_node (left := left) (deep := deep) (V := hasB V) (L := hasB L) (ds := p.ds) (pf := p.pf) (t := t) (node_cls (by rw [ok]; decide) (by rw [ok]; decide) (by simpa using bc))
          exact ret_same ⟨by rw [hz], left - 1, rfl, fun e => by rw [hz] at e; cases e⟩
      have o4 := ok
      clear ok
      by_cases ok : t.op = 6
      · simp only [go_sem, Nat.reduceEqDiff, Nat.reduceAdd, Nat.reduceSub, Nat.reduceLT, Nat.reduceBEq, Nat.reduceLeDiff, ↓reduceIte, Int.reduceToNat, Int.reduceLE, Int.reduceLT, Int.reduceEq, reduceCtorEq, ok, List.length_map]
        refine brK_mk (fun bc => ?_) (fun bc => ?_) <;> simp only [go_sem, Nat.reduceEqDiff, Nat.reduceAdd, Nat.reduceSub, Nat.reduceLT, Nat.reduceBEq, Nat.reduceLeDiff, ↓reduceIte, Int.reduceToNat, Int.reduceLE, Int.reduceLT, Int.reduceEq, reduceCtorEq, bc, ok]
        · have hc0 : t.cls.length = 0 := by simpa using bc
          have hcn : t.cls = [] := List.eq_nil_of_length_eq_zero hc0
          refine draw_by (mu := [17]) (fun _ => True) (.take 0 (.take 1 (.take 2 (.take 3 (.br 4 (.take 5 (.take 6 (.take 7 (.take 8 (.take 9 (.take 10 (.take 11 (.take 12 (.take 13 (.take 14 (.take 15 (.take 16 (.take 17 (.take 18 (.take 19 (.take 20 (.take 21 (.take 22 (.take 23 (.take 24 (.done))))))))))))))))))))) (.stop)))))) (by decide +kernel) trivial (by decide +kernel) (by decide +kernel) ?_
          simp only [go_sem, Nat.reduceEqDiff, Nat.reduceAdd, Nat.reduceSub, Nat.reduceLT, Nat.reduceBEq, Nat.reduceLeDiff, ↓reduceIte, Int.reduceToNat, Int.reduceLE, Int.reduceLT, Int.reduceEq, reduceCtorEq]
          have c0 := kind_calls p t.ty true (leftHp hp lb (left - 1))
          simp only [ProgG.av, ProgG.cs, scopeAV] at c0
          refine callX_by c0 ?_
          clear c0
          rintro r hp1 ⟨rfl, rfl⟩
          simp only [go_sem, Nat.reduceEqDiff, Nat.reduceAdd, Nat.reduceSub, Nat.reduceLT, Nat.reduceBEq, Nat.reduceLeDiff, ↓reduceIte, Int.reduceToNat, Int.reduceLE, Int.reduceLT, Int.reduceEq, reduceCtorEq]
          cases b3 : dataB p.ds t.ty true with
          | false =>
            simp only [go_sem, Nat.reduceEqDiff, Nat.reduceAdd, Nat.reduceSub, Nat.reduceLT, Nat.reduceBEq, Nat.reduceLeDiff, ↓reduceIte, Int.reduceToNat, Int.reduceLE, Int.reduceLT, Int.reduceEq, reduceCtorEq]
            have hz := ok_node (left := left) (deep := deep) (V := hasB V) (L := hasB L) (ds := p.ds) (pf := p.pf) (t := t) (node_6d ok b3)
            exact ret_same ⟨by rw [hz], left - 1, rfl, fun e => by rw [hz] at e; cases e⟩
          | true =>
            obtain ⟨ht1, ht2⟩ := data_ty b3
            have hwt : IntKind.i64.wrap (t.ty - 1) = t.ty - 1 := by simp only [maxLen] at hdl; exact IntWalk.i64_in _ (by omega)
            obtain ⟨d, hd0⟩ := someAt p.ds (t.ty - 1).toNat (by omega)
            have hxs : xtorsOf p.ds t.ty = d.xtors := by simp only [xtorsOf, hd0, Option.map_some, Option.getD_some]
            simp only [go_sem, Nat.reduceEqDiff, Nat.reduceAdd, Nat.reduceSub, Nat.reduceLT, Nat.reduceBEq, Nat.reduceLeDiff, ↓reduceIte, Int.reduceToNat, Int.reduceLE, Int.reduceLT, Int.reduceEq, reduceCtorEq, declsAV, hwt, mapAt DeclG.av _ _ _ hd0, DeclG.av, DeclG.cs, List.length_map]
            refine brK_mk (fun b4 => ?_) (fun b4 => ?_) <;> simp only [go_sem, Nat.reduceEqDiff, Nat.reduceAdd, Nat.reduceSub, Nat.reduceLT, Nat.reduceBEq, Nat.reduceLeDiff, ↓reduceIte, Int.reduceToNat, Int.reduceLE, Int.reduceLT, Int.reduceEq, reduceCtorEq, b4, declsAV, hwt, mapAt DeclG.av _ _ _ hd0, DeclG.av, DeclG.cs, List.length_map]
            · have hz := ok_node (left := left) (deep := deep) (V := hasB V) (L := hasB L) (ds := p.ds) (pf := p.pf) (t := t) (node_6h ok (by simp only [hasN]; rw [decide_eq_false (p := t.n ≥ 0) (by simp at b4; omega)]; simp))
              exact ret_same ⟨by rw [hz], left - 1, rfl, fun e => by rw [hz] at e; cases e⟩
            · refine ⟨by omega, fun _ _ => by omega, ?_⟩
              refine brK_mk (fun b5 => ?_) (fun b5 => ?_) <;> simp only [go_sem, Nat.reduceEqDiff, Nat.reduceAdd, Nat.reduceSub, Nat.reduceLT, Nat.reduceBEq, Nat.reduceLeDiff, ↓reduceIte, Int.reduceToNat, Int.reduceLE, Int.reduceLT, Int.reduceEq, reduceCtorEq, b5]
              · have hz := ok_node (left := left) (deep := deep) (V := hasB V) (L := hasB L) (ds := p.ds) (pf := p.pf) (t := t) (node_6h ok (by simp only [hasN, hxs]; rw [decide_eq_false (p := t.n < (d.xtors.length : Int)) (by simp at b5; omega)]; simp))
                exact ret_same ⟨by rw [hz], left - 1, rfl, fun e => by rw [hz] at e; cases e⟩
              · have n0 : 0 ≤ t.n := by simpa using b4
                have n1 : t.n < d.xtors.length := by simpa using b5
                obtain ⟨x, hx0⟩ := someAt d.xtors t.n.toNat (by omega)
                have hh : hasN p.ds t.ty t.n = true := by simp [hasN, hxs, ht1, ht2, n0, n1]
                have hx : (xtorsOf p.ds t.ty)[t.n.toNat]? = some x := by rw [hxs]; exact hx0
                refine draw_by (mu := [17]) (fun _ => True) (.take 0 (.take 1 (.take 2 (.take 3 (.take 4 (.take 5 (.take 6 (.take 7 (.take 8 (.take 9 (.take 10 (.take 11 (.br 12 (.take 13 (.done)) (.stop)))))))))))))) (by decide +kernel) trivial (by decide +kernel) (by decide +kernel) ?_
                simp only [go_sem, Nat.reduceEqDiff, Nat.reduceAdd, Nat.reduceSub, Nat.reduceLT, Nat.reduceBEq, Nat.reduceLeDiff, ↓reduceIte, Int.reduceToNat, Int.reduceLE, Int.reduceLT, Int.reduceEq, reduceCtorEq, hwt, mapAt DeclG.av _ _ _ hd0, DeclG.av, DeclG.cs, mapAt XtorG.av _ _ _ hx0, XtorG.av, XtorG.cs]
                refine ⟨by omega, fun _ _ => by omega, n0, fun _ _ => n0, ?_⟩
                refine callX_by (producers_calls x _) ?_
                rintro r hp1 ⟨⟨rfl, hpl⟩, rfl⟩
                have hwp : IntKind.i64.wrap ((prodN x : Int) + 1) = (prodN x : Int) + 1 := by
                  have := hsm d (List.mem_of_getElem? hd0) x (List.mem_of_getElem? hx0)
                  have : prodN x ≤ 6 := Nat.le_trans (List.length_filter_le _ _) this
                  exact IntWalk.i64_in _ (by omega)
                simp only [go_sem, Nat.reduceEqDiff, Nat.reduceAdd, Nat.reduceSub, Nat.reduceLT, Nat.reduceBEq, Nat.reduceLeDiff, ↓reduceIte, Int.reduceToNat, Int.reduceLE, Int.reduceLT, Int.reduceEq, reduceCtorEq, hwp]
                have f := fields_calls t true false true ((prodN x : Int) + 1) (leftHp hp lb (left - 1))
                simp only [TermG.av, TermG.cs_eq, ok] at f
                refine callX_by f ?_
                clear f
                rintro r hp1 ⟨rfl, rfl⟩
                simp only [go_sem, Nat.reduceEqDiff, Nat.reduceAdd, Nat.reduceSub, Nat.reduceLT, Nat.reduceBEq, Nat.reduceLeDiff, ↓reduceIte, Int.reduceToNat, Int.reduceLE, Int.reduceLT, Int.reduceEq, reduceCtorEq]
                refine brK_mk (fun b6 => ?_) (fun b6 => ?_) <;> simp only [go_sem, Nat.reduceEqDiff, Nat.reduceAdd, Nat.reduceSub, Nat.reduceLT, Nat.reduceBEq, Nat.reduceLeDiff, ↓reduceIte, Int.reduceToNat, Int.reduceLE, Int.reduceLT, Int.reduceEq, reduceCtorEq, b6]
                · have hnode : nodeB p.ds p.pf (hasB V) (hasB L) t = true := by rw [node_6 ok hc0 hx b3 hh, b6]
                  have c := all_calls hv t.ha t.args hargs hp bv bl lb V L (left - 1) deep hg h1 h2 (by omega) (by omega) h5 hd
                  simp only [termsAV, ptrAV, ProgG.av, ProgG.cs, scopeAV, declsAV] at c
                  have hres := ok_all (ds := p.ds) (pf := p.pf) (V := hasB V) (L := hasB L) hl hd hcn (by rw [ok]; decide) (by rw [ok]; decide)
                  rw [hnode, Bool.true_and] at hres
                  refine callX_by c ?_
                  rintro r hp1 ⟨rfl, lf, rfl, hlf⟩
                  simp only [go_sem, Nat.reduceEqDiff, Nat.reduceAdd, Nat.reduceSub, Nat.reduceLT, Nat.reduceBEq, Nat.reduceLeDiff, ↓reduceIte, Int.reduceToNat, Int.reduceLE, Int.reduceLT, Int.reduceEq, reduceCtorEq]
                  exact ret_same ⟨by rw [hres], lf, rfl, fun e => by rw [hres] at e; have := hlf e; have := nodes_args hcn; omega⟩
                · have hz := ok_node (left := left) (deep := deep) (V := hasB V) (L := hasB L) (ds := p.ds) (pf := p.pf) (t := t) (by rw [node_6 ok hc0 hx b3 hh, b6])
                  exact ret_same ⟨by rw [hz], left - 1, rfl, fun e => by rw [hz] at e; cases e⟩
        · have hz := ok_node (left := left) (deep := deep) (V := hasB V) (L := hasB L) (ds := p.ds) (pf := p.pf) (t := t) (node_cls (by rw [ok]; decide) (by rw [ok]; decide) (by simpa using bc))
          exact ret_same ⟨by rw [hz], left - 1, rfl, fun e => by rw [hz] at e; cases e⟩
      have o6 := ok
      clear ok
      have hz := ok_node (left := left) (deep := deep) (V := hasB V) (L := hasB L) (ds := p.ds) (pf := p.pf) (t := t) (node_no o0 o1 o2 o3 o4 o5 o6 o7 o8 o9 o10 o11 o12)
      simp only [go_sem, Nat.reduceEqDiff, Nat.reduceAdd, Nat.reduceSub, Nat.reduceLT, Nat.reduceBEq, Nat.reduceLeDiff, ↓reduceIte, Int.reduceToNat, Int.reduceLE, Int.reduceLT, Int.reduceEq, reduceCtorEq, o5, o7, List.length_map]
      refine brK_mk (fun bc => ?_) (fun bc => ?_) <;> simp only [go_sem, Nat.reduceEqDiff, Nat.reduceAdd, Nat.reduceSub, Nat.reduceLT, Nat.reduceBEq, Nat.reduceLeDiff, ↓reduceIte, Int.reduceToNat, Int.reduceLE, Int.reduceLT, Int.reduceEq, reduceCtorEq, bc, o0, o1, o2, o3, o4, o5, o6, o7, o8, o9, o10, o11, o12]
      all_goals exact ret_same ⟨by rw [hz], left - 1, rfl, fun e => by rw [hz] at e; cases e⟩
theorem valid_all {p : ProgG} (hsm : SmallX p.ds) : ∀ N, ValidC p N
  | 0 => fun t ht => by have := nodesT_pos t; omega
  | N + 1 => valid_step hsm (valid_all hsm N)
end Go.Proofs.YtkoachnlimebaaaGreatDoor
