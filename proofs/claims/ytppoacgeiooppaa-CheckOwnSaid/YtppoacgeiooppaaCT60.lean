/- The reference of the layer 'term': Copy. -/
import Derived.Test.YtppoacgeiooppaaCT51
import Derived.Test.YtppoacgeiooppaaCT22
import Derived.Test.YtppoacgeiooppaaCAL34
set_option linter.unusedSimpArgs false
set_option linter.unusedVariables false
set_option maxRecDepth 20000
set_option maxHeartbeats 4000000
namespace Go.Proofs.Ytppoacgeiooppaa
open Go.AL

mutual
def bareT : TermG → TermG
  | .mk op n name ty _ args _ cls => .mk op n name ty (.slice none 0 0) (bareA args) (.slice none 0 0) (bareC cls)
def bareA : List TermG → List TermG
  | [] => []
  | a :: r => bareT a :: bareA r
def bareC : List ClauseG → List ClauseG
  | [] => []
  | c :: r => bareB c :: bareC r
def bareB : ClauseG → ClauseG
  | .mk _ names b => .mk (.slice none 0 0) names (bareT b)
end
theorem bareA_map : ∀ l : List TermG, bareA l = l.map bareT
  | [] => by rw [bareA]; rfl
  | a :: r => by rw [bareA, bareA_map r]; rfl
theorem bareC_map : ∀ l : List ClauseG, bareC l = l.map bareB
  | [] => by rw [bareC]; rfl
  | a :: r => by rw [bareC, bareC_map r]; rfl
theorem bareT_eq (t : TermG) : bareT t = .mk t.op t.n t.name t.ty (.slice none 0 0) (t.args.map bareT) (.slice none 0 0) (t.cls.map bareB) := by cases t; rw [bareT, bareA_map, bareC_map]; rfl
theorem bareB_eq (c : ClauseG) : bareB c = .mk (.slice none 0 0) c.names (bareT c.body) := by cases c; rw [bareB]; rfl
theorem smT_arg {t a : TermG} (h : smT t) (ha : a ∈ t.args) : smT a := by
  have go : ∀ l : List TermG, smA l → ∀ a ∈ l, smT a := by
    intro l
    induction l with
    | nil => intro _ a ha; cases ha
    | cons b r ih =>
      intro h a ha
      rw [smA] at h
      rcases List.mem_cons.1 ha with rfl | ha
      · exact h.1
      · exact ih h.2 a ha
  rw [TermG.eta t, smT] at h
  exact go _ h.1 a ha
theorem smT_cls {t : TermG} {c : ClauseG} (h : smT t) (hc : c ∈ t.cls) : c.names.length * 16 ≤ reachBytes ∧ smT c.body := by
  have go : ∀ l : List ClauseG, smC l → ∀ c ∈ l, c.names.length * 16 ≤ reachBytes ∧ smT c.body := by
    intro l
    induction l with
    | nil => intro _ a ha; cases ha
    | cons b r ih =>
      intro h a ha
      rw [smC] at h
      rcases List.mem_cons.1 ha with rfl | ha
      · have := h.1
        rw [ClauseG.eta a, smB] at this; exact this
      · exact ih h.2 a ha
  rw [TermG.eta t, smT] at h
  exact go _ h.2 c hc
theorem ones_cls (l : List ClauseG) : ((l.map ClauseG.av).flatMap AV.cells).all AV.one = true := by
  induction l with
  | nil => rfl
  | cons a l ih =>
    rw [List.map_cons, List.flatMap_cons, List.all_append, ih, ClauseG.av, ClauseG.cs_eq]; rfl
def outCs (t : TermG) (hA hC : Value) (A : List TermG) (C : List ClauseG) : List AV := [.v (.int .i64 t.op), .v (.int .i64 t.n), .v (.string (bs t.name)), .v (.int .i64 t.ty), .lst 6 hA (A.map TermG.av), .lst 7 hC (C.map ClauseG.av)]
def zeroCs : List AV := [.v (.int .i64 0), .v (.int .i64 0), .v (.string (bs [])), .v (.int .i64 0), .v (.slice none 0 0), .v (.slice none 0 0)]
def cpHp (hp : Hp) (b2 b3 : Nat) (t : TermG) (hA hC : Value) (A : List TermG) (C : List ClauseG) : Hp := ((hp.setSp ((30, 6, hA) :: (89, 7, hC) :: hp.sp)).setBlk b2 30 zeroCs).setBlk b3 30 (outCs t hA hC A C)
theorem copyT_calls : ∀ (N : Nat) (t : TermG), nodesT t ≤ N → N ≤ 5000 → smT t → ∀ (hp : Hp), ACalls Try.prog 17 [t.av] hp (fun r hp' => (∃ t', r = t'.av ∧ bareT t' = bareT t) ∧ hp' = hp)
  | 0, t, hN, _, _, _ => by have := nodesT_pos t; omega
  | N + 1, t, hN, hN2, hsm, hp => by
    have hrec := copyT_calls N
    have hnt := nodesT_eq t
    have hlA := argsN_len t.args
    have hlC := clsN_len t.cls
    refine acalls_addNil 89 7 (acalls_addNil 30 6 ?_)
    refine acalls_of Try.func17 rfl (by decide +kernel) (awp_sound (mu := [3, 9, 10, 24, 44]) _ _ _ ?_)
    simp only [go_sem, Nat.reduceEqDiff, Nat.reduceAdd, Nat.reduceSub, Nat.reduceLT, Nat.reduceMul, Nat.reduceBEq, Nat.reduceLeDiff, ↓reduceIte, Int.reduceToNat, Nat.reduceGT, Int.reduceLE, Int.reduceLT, Int.reduceGE, Int.reduceGT, Int.reduceEq, Int.reduceNe, reduceCtorEq, TermG.av, TermG.cs_eq]
    intro q1 b2 hb2 b3 hb3
    have hne : b3 ≠ b2 := by rintro rfl; have := hb3.1; simp [Hp.setBlk] at this
    have hn2 : hp.blk b2 = none := hb2.1
    have hn3 : hp.blk b3 = none := by have := hb3.1; simpa [Hp.setBlk, Hp.setSp, hne] using this
    refine castBlk_by b3 30 [.v (.int .i64 t.op), .v (.int .i64 t.n), .v (.string (bs t.name)), .v (.int .i64 t.ty), .v (.slice none 0 0), .v (.slice none 0 0)] (outCs t (.slice none 0 0) (.slice none 0 0) [] []) (by simp [Hp.setBlk, St.setHp, go_sem]) rfl
      (fun m h => ⟨trivial, trivial, trivial, trivial, (Cast.nil 6).2 m trivial, (Cast.nil 7).2 m trivial, trivial⟩) ?_
    refine aw_loopX 47 (fun x : Nat × Value × List TermG => [(1, .ref q1 [.v (.int .i64 t.op), .v (.int .i64 t.n), .v (.string (bs t.name)), .v (.int .i64 t.ty), .lst 6 t.ha (t.args.map TermG.av), .lst 7 t.hc (t.cls.map ClauseG.av)]), (2, .v (.pointer (some ⟨b2, 0, none⟩))), (3, .v (.pointer (some ⟨b3, 0, none⟩))), (12, .lst 6 t.ha (t.args.map TermG.av)), (13, .v (.int .i64 t.args.length)), (14, .v (.int .i64 x.1))])
      (fun x => cpHp hp b2 b3 t x.2.1 (.slice none 0 0) x.2.2 []) (fun x => x.1 ≤ t.args.length ∧ x.2.2.map bareT = (t.args.take x.1).map bareT) (fun x => t.args.length - x.1) (0, .slice none 0 0, []) ⟨Nat.zero_le _, rfl⟩
      (le_mkSl rfl ⟨fun i x hi => by
        simp only [go_sem, Nat.reduceEqDiff, Nat.reduceAdd, Nat.reduceSub, Nat.reduceLT, Nat.reduceMul, Nat.reduceBEq, Nat.reduceLeDiff, ↓reduceIte, Int.reduceToNat, Nat.reduceGT, Int.reduceLE, Int.reduceLT, Int.reduceGE, Int.reduceGT, Int.reduceEq, Int.reduceNe, reduceCtorEq] at hi ⊢
        simp only [cpHp, Hp.setBlk, Hp.setSp] at hi
        by_cases e3 : i = b3
        · simpa [e3] using hi
        · by_cases e2 : i = b2
          · subst e2; simpa [e3, zeroCs] using hi
          · simpa [e3, e2] using hi, fun _ _ h => h, List.Sublist.refl _, fun _ h => h⟩ (by simp [go_sem])) ?_
    rintro ⟨k, hA, A⟩ ⟨hk, hAk⟩
    simp only at hk hAk
    have hAl : A.length = k := by have := congrArg List.length hAk; simp at this; omega
    have hbk : (cpHp hp b2 b3 t hA (.slice none 0 0) A []).blk b3 = some (30, outCs t hA (.slice none 0 0) A []) := by simp [cpHp, Hp.setBlk]
    simp only [outCs] at hbk
    refine awp_sound (mu := [3, 9, 10, 24, 44]) _ _ _ ?_
    simp only [go_sem, Nat.reduceEqDiff, Nat.reduceAdd, Nat.reduceSub, Nat.reduceLT, Nat.reduceMul, Nat.reduceBEq, Nat.reduceLeDiff, ↓reduceIte, Int.reduceToNat, Nat.reduceGT, Int.reduceLE, Int.reduceLT, Int.reduceGE, Int.reduceGT, Int.reduceEq, Int.reduceNe, reduceCtorEq]
    refine brK_mk (fun b1 => ?_) (fun b1 => ?_) <;> simp only [go_sem, Nat.reduceEqDiff, Nat.reduceAdd, Nat.reduceSub, Nat.reduceLT, Nat.reduceMul, Nat.reduceBEq, Nat.reduceLeDiff, ↓reduceIte, Int.reduceToNat, Nat.reduceGT, Int.reduceLE, Int.reduceLT, Int.reduceGE, Int.reduceGT, Int.reduceEq, Int.reduceNe, reduceCtorEq, b1]
    · have hk' : k < t.args.length := by simpa using b1
      obtain ⟨a, ha⟩ := someAt t.args k hk'
      have hmem := List.mem_of_getElem? ha
      have hlt := args_lt hmem
      have hwk : IntKind.i64.wrap ((k : Int) + 1) = ((k + 1 : Nat) : Int) := IntWalk.i64_in _ (by omega)
      simp only [go_sem, Nat.reduceEqDiff, Nat.reduceAdd, Nat.reduceSub, Nat.reduceLT, Nat.reduceMul, Nat.reduceBEq, Nat.reduceLeDiff, ↓reduceIte, Int.reduceToNat, Nat.reduceGT, Int.reduceLE, Int.reduceLT, Int.reduceGE, Int.reduceGT, Int.reduceEq, Int.reduceNe, reduceCtorEq, mapAt TermG.av _ _ _ ha, TermG.av, TermG.cs_eq]
      intro v hv
      have hdv := fun T cs => Hp.del_set _ _ T cs hv.1
      simp only [hdv]
      refine draw_by (mu := [3, 9, 10, 24, 44]) (fun _ => True) (.take 0 (.take 2 (.br 1 (.br 3 (.br 4 (.br 5 (.take 6 (.br 7 (.done) (.stop))) (.stop)) (.stop)) (.stop)) (.br 3 (.br 1 (.br 4 (.br 5 (.take 6 (.br 7 (.done) (.stop))) (.stop)) (.stop)) (.br 4 (.br 1 (.br 5 (.take 6 (.br 7 (.done) (.stop))) (.stop)) (.stop)) (.stop))) (.stop))))) (by decide +kernel) trivial (by decide +kernel) (by decide +kernel) ?_
      simp only [go_sem, Nat.reduceEqDiff, Nat.reduceAdd, Nat.reduceSub, Nat.reduceLT, Nat.reduceMul, Nat.reduceBEq, Nat.reduceLeDiff, ↓reduceIte, Int.reduceToNat, Nat.reduceGT, Int.reduceLE, Int.reduceLT, Int.reduceGE, Int.reduceGT, Int.reduceEq, Int.reduceNe, reduceCtorEq, hbk]
      have c := fun hp => hrec a (by omega) (by omega) (smT_arg hsm hmem) hp
      simp only [TermG.av, TermG.cs_eq] at c
      repeat' first
        | with_reducible exact trivial
        | (refine callX_by (c _) ?_; rintro r hp1 ⟨⟨a', rfl, ha'⟩, rfl⟩; try simp only [go_sem, Nat.reduceEqDiff, Nat.reduceAdd, Nat.reduceSub, Nat.reduceLT, Nat.reduceMul, Nat.reduceBEq, Nat.reduceLeDiff, ↓reduceIte, Int.reduceToNat, Nat.reduceGT, Int.reduceLE, Int.reduceLT, Int.reduceGE, Int.reduceGT, Int.reduceEq, Int.reduceNe, reduceCtorEq, hbk])
        | (refine ⟨rfl, by simp, fun hd => ?_⟩; try simp only [go_sem, Nat.reduceEqDiff, Nat.reduceAdd, Nat.reduceSub, Nat.reduceLT, Nat.reduceMul, Nat.reduceBEq, Nat.reduceLeDiff, ↓reduceIte, Int.reduceToNat, Nat.reduceGT, Int.reduceLE, Int.reduceLT, Int.reduceGE, Int.reduceGT, Int.reduceEq, Int.reduceNe, reduceCtorEq, hbk])
        | (refine append_at 1 Try.k27 Try.s30 Try.y30 Try.z30 rfl (by decide) rfl (Cast.refl _) rfl (Cast.refl _) rfl (by first | rfl | exact ones_terms [_]) (by simp [maxLen]; omega) (by simp; omega) (by simp [go_sem]) (fun hA' => ?_); try simp only [go_sem, Nat.reduceEqDiff, Nat.reduceAdd, Nat.reduceSub, Nat.reduceLT, Nat.reduceMul, Nat.reduceBEq, Nat.reduceLeDiff, ↓reduceIte, Int.reduceToNat, Nat.reduceGT, Int.reduceLE, Int.reduceLT, Int.reduceGE, Int.reduceGT, Int.reduceEq, Int.reduceNe, reduceCtorEq, hbk, hwk])
        | (with_reducible refine And.intro ?_ ?_)
      all_goals
        exact ⟨(k + 1, hA', A ++ [a']), by simp only; omega, ⟨by simp only; omega, by rw [List.map_append, hAk, List.take_add_one, ha]; simp [ha']⟩, le_mkSl rfl ⟨fun i x hi => by
          simp only [go_sem, Nat.reduceEqDiff, Nat.reduceAdd, Nat.reduceSub, Nat.reduceLT, Nat.reduceMul, Nat.reduceBEq, Nat.reduceLeDiff, ↓reduceIte, Int.reduceToNat, Nat.reduceGT, Int.reduceLE, Int.reduceLT, Int.reduceGE, Int.reduceGT, Int.reduceEq, Int.reduceNe, reduceCtorEq] at hi ⊢
          simp only [cpHp, outCs, Hp.setBlk, Hp.setSp] at hi ⊢
          by_cases e3 : i = b3
          · simpa [e3, splice, List.map_append, TermG.av, TermG.cs_eq] using hi
          · by_cases e2 : i = b2
            · subst e2; simpa [e3, zeroCs] using hi
            · simpa [e3, e2] using hi, fun _ _ h => h, List.sublist_cons_self _ _, fun _ h => h⟩ (by simp [go_sem, hwk])⟩
    · have e0 : k = t.args.length := by have := of_decide_eq_false b1; omega
      subst e0
      rw [List.take_length] at hAk
      refine aw_loopX 47 (fun x : Nat × Value × List ClauseG => [(1, .ref q1 [.v (.int .i64 t.op), .v (.int .i64 t.n), .v (.string (bs t.name)), .v (.int .i64 t.ty), .lst 6 t.ha (t.args.map TermG.av), .lst 7 t.hc (t.cls.map ClauseG.av)]), (2, .v (.pointer (some ⟨b2, 0, none⟩))), (3, .v (.pointer (some ⟨b3, 0, none⟩))), (27, .lst 7 t.hc (t.cls.map ClauseG.av)), (28, .v (.int .i64 t.cls.length)), (29, .v (.int .i64 x.1))])
        (fun x => cpHp hp b2 b3 t hA x.2.1 A x.2.2) (fun x => x.1 ≤ t.cls.length ∧ x.2.2.map bareB = (t.cls.take x.1).map bareB) (fun x => t.cls.length - x.1) (0, .slice none 0 0, []) ⟨Nat.zero_le _, rfl⟩
        (le_mkSl rfl (Hp.le_refl _) (by simp [go_sem])) ?_
      rintro ⟨k, hC, C⟩ ⟨hk, hCk⟩
      simp only at hk hCk
      have hCl : C.length = k := by have := congrArg List.length hCk; simp at this; omega
      clear hbk
      have hbk : (cpHp hp b2 b3 t hA hC A C).blk b3 = some (30, outCs t hA hC A C) := by simp [cpHp, Hp.setBlk]
      simp only [outCs] at hbk
      have hbk2 : (cpHp hp b2 b3 t hA hC A C).blk b2 = some (30, zeroCs) := by simp [cpHp, Hp.setBlk, Ne.symm hne]
      simp only [zeroCs] at hbk2
      refine awp_sound (mu := [3, 9, 10, 24, 44]) _ _ _ ?_
      simp only [go_sem, Nat.reduceEqDiff, Nat.reduceAdd, Nat.reduceSub, Nat.reduceLT, Nat.reduceMul, Nat.reduceBEq, Nat.reduceLeDiff, ↓reduceIte, Int.reduceToNat, Nat.reduceGT, Int.reduceLE, Int.reduceLT, Int.reduceGE, Int.reduceGT, Int.reduceEq, Int.reduceNe, reduceCtorEq]
      refine brK_mk (fun b1 => ?_) (fun b1 => ?_) <;> simp only [go_sem, Nat.reduceEqDiff, Nat.reduceAdd, Nat.reduceSub, Nat.reduceLT, Nat.reduceMul, Nat.reduceBEq, Nat.reduceLeDiff, ↓reduceIte, Int.reduceToNat, Nat.reduceGT, Int.reduceLE, Int.reduceLT, Int.reduceGE, Int.reduceGT, Int.reduceEq, Int.reduceNe, reduceCtorEq, b1]
      · have hk' : k < t.cls.length := by simpa using b1
        obtain ⟨c1, hc1⟩ := someAt t.cls k hk'
        have hmem := List.mem_of_getElem? hc1
        have hlt := cls_lt hmem
        obtain ⟨hnl, hsb⟩ := smT_cls hsm hmem
        have hR : reachBytes = 140737488351232 := rfl
        have hwk : IntKind.i64.wrap ((k : Int) + 1) = ((k + 1 : Nat) : Int) := IntWalk.i64_in _ (by omega)
        simp only [go_sem, Nat.reduceEqDiff, Nat.reduceAdd, Nat.reduceSub, Nat.reduceLT, Nat.reduceMul, Nat.reduceBEq, Nat.reduceLeDiff, ↓reduceIte, Int.reduceToNat, Nat.reduceGT, Int.reduceLE, Int.reduceLT, Int.reduceGE, Int.reduceGT, Int.reduceEq, Int.reduceNe, reduceCtorEq, mapAt ClauseG.av _ _ _ hc1, ClauseG.av, ClauseG.cs_eq]
        intro v hv
        have hdv := fun T cs => Hp.del_set _ _ T cs hv.1
        simp only [hdv]
        refine draw_by (mu := [3, 9, 10, 24, 44]) (fun _ => True) (.take 0 (.take 2 (.take 3 (.take 5 (.take 6 (.br 1 (.br 4 (.br 7 (.br 8 (.br 9 (.br 10 (.take 11 (.br 12 (.done) (.stop))) (.stop)) (.stop)) (.stop)) (.stop)) (.stop)) (.br 4 (.br 1 (.br 7 (.br 8 (.br 9 (.br 10 (.take 11 (.br 12 (.done) (.stop))) (.stop)) (.stop)) (.stop)) (.stop)) (.br 7 (.br 1 (.br 8 (.br 9 (.br 10 (.take 11 (.br 12 (.done) (.stop))) (.stop)) (.stop)) (.stop)) (.br 8 (.br 1 (.br 9 (.br 10 (.take 11 (.br 12 (.done) (.stop))) (.stop)) (.stop)) (.br 9 (.br 1 (.br 10 (.take 11 (.br 12 (.done) (.stop))) (.stop)) (.stop)) (.stop))) (.stop))) (.stop))) (.stop)))))))) (by decide +kernel) trivial (by decide +kernel) (by decide +kernel) ?_
        simp only [go_sem, Nat.reduceEqDiff, Nat.reduceAdd, Nat.reduceSub, Nat.reduceLT, Nat.reduceMul, Nat.reduceBEq, Nat.reduceLeDiff, ↓reduceIte, Int.reduceToNat, Nat.reduceGT, Int.reduceLE, Int.reduceLT, Int.reduceGE, Int.reduceGT, Int.reduceEq, Int.reduceNe, reduceCtorEq, hbk]
        have c := fun hp => hrec c1.body (by omega) (by omega) hsb hp
        simp only [TermG.av, TermG.cs_eq] at c
        repeat' first
          | with_reducible exact trivial
          | (refine callX_by (c _) ?_; rintro r hp1 ⟨⟨a', rfl, ha'⟩, rfl⟩; try simp only [go_sem, Nat.reduceEqDiff, Nat.reduceAdd, Nat.reduceSub, Nat.reduceLT, Nat.reduceMul, Nat.reduceBEq, Nat.reduceLeDiff, ↓reduceIte, Int.reduceToNat, Nat.reduceGT, Int.reduceLE, Int.reduceLT, Int.reduceGE, Int.reduceGT, Int.reduceEq, Int.reduceNe, reduceCtorEq, hbk])
          | (refine ⟨rfl, by simp, fun hd => ?_⟩; try simp only [go_sem, Nat.reduceEqDiff, Nat.reduceAdd, Nat.reduceSub, Nat.reduceLT, Nat.reduceMul, Nat.reduceBEq, Nat.reduceLeDiff, ↓reduceIte, Int.reduceToNat, Nat.reduceGT, Int.reduceLE, Int.reduceLT, Int.reduceGE, Int.reduceGT, Int.reduceEq, Int.reduceNe, reduceCtorEq, hbk])
          | (refine append0_by Try.k37 Try.s9 Try.y9 Try.z9 rfl (by decide) rfl (Cast.nil 1) rfl (Cast.refl _) (strs_one _) (by simp [maxLen]; omega) (by simp; omega) (by simp [go_sem]) (fun hn' => ?_); try simp only [go_sem, Nat.reduceEqDiff, Nat.reduceAdd, Nat.reduceSub, Nat.reduceLT, Nat.reduceMul, Nat.reduceBEq, Nat.reduceLeDiff, ↓reduceIte, Int.reduceToNat, Nat.reduceGT, Int.reduceLE, Int.reduceLT, Int.reduceGE, Int.reduceGT, Int.reduceEq, Int.reduceNe, reduceCtorEq, hbk])
          | (refine append_at 2 Try.k28 Try.s89 Try.y89 Try.z89 rfl (by decide) rfl (by first | exact Cast.refl _ | exact Cast.nil 7) rfl (Cast.refl _) rfl (by first | rfl | exact ones_cls [_]) (by simp [maxLen]; omega) (by simp; omega) (by simp [go_sem]) (fun hC' => ?_); try simp only [go_sem, Nat.reduceEqDiff, Nat.reduceAdd, Nat.reduceSub, Nat.reduceLT, Nat.reduceMul, Nat.reduceBEq, Nat.reduceLeDiff, ↓reduceIte, Int.reduceToNat, Nat.reduceGT, Int.reduceLE, Int.reduceLT, Int.reduceGE, Int.reduceGT, Int.reduceEq, Int.reduceNe, reduceCtorEq, hbk, hwk])
          | (refine append_at 3 Try.k28 Try.s89 Try.y89 Try.z89 rfl (by decide) rfl (by first | exact Cast.refl _ | exact Cast.nil 7) rfl (Cast.refl _) rfl (by first | rfl | exact ones_cls [_]) (by simp [maxLen]; omega) (by simp; omega) (by simp [go_sem]) (fun hC' => ?_); try simp only [go_sem, Nat.reduceEqDiff, Nat.reduceAdd, Nat.reduceSub, Nat.reduceLT, Nat.reduceMul, Nat.reduceBEq, Nat.reduceLeDiff, ↓reduceIte, Int.reduceToNat, Nat.reduceGT, Int.reduceLE, Int.reduceLT, Int.reduceGE, Int.reduceGT, Int.reduceEq, Int.reduceNe, reduceCtorEq, hbk, hwk])
          | (with_reducible refine And.intro ?_ ?_)
        all_goals exact ⟨(k + 1, hC', C ++ [.mk hn' c1.names a']), by simp only; omega, ⟨by simp only; omega, by rw [List.map_append, hCk, List.take_add_one, hc1]; simp [bareB_eq, ClauseG.names, ClauseG.body, ha']⟩, le_mkSl rfl ⟨fun i x hi => by
          simp only [go_sem, Nat.reduceEqDiff, Nat.reduceAdd, Nat.reduceSub, Nat.reduceLT, Nat.reduceMul, Nat.reduceBEq, Nat.reduceLeDiff, ↓reduceIte, Int.reduceToNat, Nat.reduceGT, Int.reduceLE, Int.reduceLT, Int.reduceGE, Int.reduceGT, Int.reduceEq, Int.reduceNe, reduceCtorEq] at hi ⊢
          simp only [cpHp, outCs, Hp.setBlk, Hp.setSp] at hi ⊢
          by_cases e3 : i = b3
          · simpa [e3, splice, List.map_append, ClauseG.av, ClauseG.cs_eq, ClauseG.hn, ClauseG.names, ClauseG.body] using hi
          · by_cases e2 : i = b2
            · subst e2; simpa [e3, zeroCs] using hi
            · simpa [e3, e2] using hi, fun _ _ h => h, by
          simp only [go_sem, Nat.reduceEqDiff, Nat.reduceAdd, Nat.reduceSub, Nat.reduceLT, Nat.reduceMul, Nat.reduceBEq, Nat.reduceLeDiff, ↓reduceIte, Int.reduceToNat, Nat.reduceGT, Int.reduceLE, Int.reduceLT, Int.reduceGE, Int.reduceGT, Int.reduceEq, Int.reduceNe, reduceCtorEq, cpHp]
          repeat first | exact List.Sublist.refl _ | apply List.Sublist.cons, fun _ h => h⟩ (by simp [go_sem, hwk])⟩
      · have e0 : k = t.cls.length := by have := of_decide_eq_false b1; omega
        subst e0
        rw [List.take_length] at hCk
        simp only [hbk, hbk2, go_sem, Nat.reduceEqDiff, Nat.reduceAdd, Nat.reduceSub, Nat.reduceLT, Nat.reduceMul, Nat.reduceBEq, Nat.reduceLeDiff, ↓reduceIte, Int.reduceToNat, Nat.reduceGT, Int.reduceLE, Int.reduceLT, Int.reduceGE, Int.reduceGT, Int.reduceEq, Int.reduceNe, reduceCtorEq]
        refine ret_le (hp' := hp) ⟨fun i x hi => ?_, fun _ _ h => h, (List.sublist_cons_self _ _).trans (List.sublist_cons_self _ _), fun _ h => h⟩ ⟨⟨.mk t.op t.n t.name t.ty hA A hC C, rfl, ?_⟩, rfl⟩
        · have e2 : i ≠ b2 := by rintro rfl; rw [hn2] at hi; cases hi
          have e3 : i ≠ b3 := by rintro rfl; rw [hn3] at hi; cases hi
          simpa [cpHp, Hp.setBlk, Hp.setSp, Hp.delBlk, e2, e3] using hi
        · rw [bareT_eq, bareT_eq t]
          show TermG.mk t.op t.n t.name t.ty (.slice none 0 0) (A.map bareT) (.slice none 0 0) (C.map bareB) = _
          rw [hAk, hCk]
end Go.Proofs.Ytppoacgeiooppaa
