/- Heaps: the law HeapDoes. -/
import Derived.Test.YtfdlfcafcjhpmaaCH21
import Derived.Test.YtfdlfcafcjhpmaaCH18
import Derived.Test.YtfdlfcafcjhpmaaCAL21
set_option linter.unusedSimpArgs false
set_option linter.unusedVariables false
set_option maxRecDepth 20000
set_option maxHeartbeats 4000000
namespace Go.Proofs.Ytfdlfcafcjhpmaa
open Go.AL

theorem acalls_res {P : Program} {f : FuncId} {args : List AV} {hp : Hp} {R R' : AV → Hp → Prop} (h : ACalls P f args hp R) (hR : ∀ r hp', R r hp' → ∃ hp2, R' r hp2 ∧ ∀ base m w, HpOk base hp' m w → HpOk base hp2 m w) : ACalls P f args hp R' :=
  ⟨h.1, fun F w hr => (h.2 F w hr).mono fun _ _ ⟨r, hp', h1, h2, hlo, m, hle, hhp, ho⟩ => by
    obtain ⟨hp2, k1, k2⟩ := hR _ _ h1
    exact ⟨r, hp2, k1, h2, hlo, m, hle, k2 _ _ _ hhp, ho⟩⟩

section
variable {X Y : Hp} {hb : Nat} {size : Int} {c s o : Value} {G : List ObjG} {l2 : List (TypeId × Nat × Value)}
theorem fork2_calls (hok : Okay size G) (hX : X.blk hb = none) (hY : (HHp X hb size c s o G X.sp).le Y) : ACalls Try.prog 16 [hptrAV hb] Y
    (fun r hp' => ∃ b c' s' o', r = hptrAV b ∧ X.blk b = none ∧ hp' = HHp X b size c' s' o' G X.sp) := by
  have hN := hok.n
  have hGl := len_endO G
  have hc1 : (spOf G).c.length = endO G := cellsO_len G
  have hs1 : (spOf G).s.length = endO G := sizesO_len G
  have ho1 : (spOf G).o.length = G.length := addrsF_len 0 G
  refine acalls_less hY (acalls_res (forkH_calls (hhp_blk ..) (by omega) (by omega) (by omega)) ?_)
  rintro r hp' ⟨b, c', s', o', rfl, hf, rfl⟩
  have hne : b ≠ hb := by rintro rfl; have := hf.1; rw [hhp_blk] at this; cases this
  have hXb : X.blk b = none := by have := hf.1; simpa [HHp, Hp.setBlk, Hp.setSp, hne] using this
  refine ⟨HHp X b size c' s' o' G X.sp, ⟨b, c', s', o', rfl, hXb, rfl⟩, fun base m w h => ?_⟩
  have h1 : HpOk base ((X.setBlk b 105 (HeapV size c' s' o' (spOf G))).setSp ((3, 1, o') :: (3, 1, s') :: (65, 2, c') :: X.sp)) m w := by
    refine h.weaken ⟨fun i x hi => ?_, fun _ _ h => h, ?_, fun _ h => h⟩
    · have e : i ≠ hb := by
        rintro rfl
        simp [Hp.setSp, Hp.setBlk, Ne.symm hne, hX] at hi
      simpa [HHp, Hp.setSp, Hp.setBlk, e] using hi
    · simp only [HHp, Hp.setSp, spE]
      exact List.Sublist.cons_cons _ (List.Sublist.cons_cons _ (List.Sublist.cons_cons _ (((List.sublist_cons_self _ _).trans (List.sublist_cons_self _ _)).trans (List.sublist_cons_self _ _))))
  have h2 := h1.perm (l := spE c' s' o' X.sp) (by
    simp only [Hp.setSp, spE]
    exact ((List.reverse_perm [(3, 1, o'), (3, 1, s'), (65, 2, c')]).symm.append_right X.sp))
  exact h2
theorem do2_calls (hok : Okay size G) (hY : (HHp X hb size c s o G l2).le Y) (hm0 : Value) {l : List RObj} (hm : MR G l) (op : OpG) (hw : op.ws.length ≤ 8796093022000) : ACalls Try.prog 17 [hptrAV hb, modelAV size hm0 l, op.av] Y
    (fun r hp' => ∃ ho' l' c' s' o', r = .tup [modelAV size ho' l', .v (.bool true)] ∧ MR (stepG size G op) l' ∧ hp' = HHp X hb size c' s' o' (stepG size G op) l2) := by
  refine acalls_less hY ((ldo_calls (hhp_blk ..) rfl hok hm0 hm op hw).mono ?_)
  rintro r hp' ⟨ho', l', c', s', o', rfl, hm', rfl⟩
  exact ⟨ho', l', c', s', o', rfl, hm', hhp_hhp ..⟩
end
theorem newBad_iff {size : Int} : newBad size = true ↔ size < 0 ∨ size > 1048576 := by simp [newBad]
def DoesI (size : Int) (G : List ObjG) (l' : List RObj) : Prop := Okay size G ∧ MR G l'
structure DoesG where
  k : Nat
  hb : Nat
  c : Value
  s : Value
  o : Value
  ho : Value
  G : List ObjG
  l : List RObj
theorem heapDoes_calls (size : Int) (h0 : Value) (l : List OpG) (hw : ∀ x ∈ l, x.ws.length ≤ 8796093022000) (hp : Hp) :
    ACalls Try.prog 3 [iv size, opsAV h0 l] hp (fun r hp' => r = .v (.bool true) ∧ hp' = hp) := by
  refine acalls_fit (callable_of Try.func3 (by decide +kernel)) fun hfit => ?_
  have hl : l.length ≤ maxLen := by have := hfit.2.1; simp only [opsAV, AV.fit, List.length_map] at this; exact this.1
  refine acalls_of Try.func3 rfl (by decide +kernel) (awp_sound (mu := [7, 9, 11]) _ _ _ ?_)
  simp only [go_sem, Int.natCast_nonneg, Nat.reduceEqDiff, Nat.reduceAdd, Nat.reduceSub, Nat.reduceLT, Nat.reduceMul, Nat.reduceBEq, Nat.reduceLeDiff, ↓reduceIte, Int.toNat_natCast, Int.reduceToNat, Int.toNat_zero, Int.toNat_one, not_true_eq_false, false_or, or_self, Nat.reduceGT, Option.isSome_some, Bool.and_self, Nat.zero_add, Nat.mul_one, List.length_map, List.take_length, Int.cast_ofNat_Int, Int.reduceLE, Int.reduceLT, Int.reduceGE, Int.reduceGT, Int.reduceEq, Int.reduceNe, Int.le_refl, Nat.le_refl, Nat.reduceAdd, ne_eq, not_false_eq_true, reduceCtorEq, beq_true, beq_false, BEq.rfl, Bool.not_true, Bool.not_false, decide_true, decide_false, exists_prop]
  refine callX_by (new_calls size _) ?_
  rintro r hp1 (⟨hb, rfl, rfl⟩ | ⟨hbad, b, rfl, hfr, rfl⟩)
  · have hb' := newBad_iff.1 hb
    simp only [go_sem, Int.natCast_nonneg, Nat.reduceEqDiff, Nat.reduceAdd, Nat.reduceSub, Nat.reduceLT, Nat.reduceMul, Nat.reduceBEq, Nat.reduceLeDiff, ↓reduceIte, Int.toNat_natCast, Int.reduceToNat, Int.toNat_zero, Int.toNat_one, not_true_eq_false, false_or, or_self, Nat.reduceGT, Option.isSome_some, Bool.and_self, Nat.zero_add, Nat.mul_one, List.length_map, List.take_length, Int.cast_ofNat_Int, Int.reduceLE, Int.reduceLT, Int.reduceGE, Int.reduceGT, Int.reduceEq, Int.reduceNe, Int.le_refl, Nat.le_refl, Nat.reduceAdd, ne_eq, not_false_eq_true, reduceCtorEq, beq_true, beq_false, BEq.rfl, Bool.not_true, Bool.not_false, decide_true, decide_false, exists_prop, iv]
    refine brK_mk (fun h1 => ?_) (fun h1 => ?_) <;> simp only [go_sem, Int.natCast_nonneg, Nat.reduceEqDiff, Nat.reduceAdd, Nat.reduceSub, Nat.reduceLT, Nat.reduceMul, Nat.reduceBEq, Nat.reduceLeDiff, ↓reduceIte, Int.toNat_natCast, Int.reduceToNat, Int.toNat_zero, Int.toNat_one, not_true_eq_false, false_or, or_self, Nat.reduceGT, Option.isSome_some, Bool.and_self, Nat.zero_add, Nat.mul_one, List.length_map, List.take_length, Int.cast_ofNat_Int, Int.reduceLE, Int.reduceLT, Int.reduceGE, Int.reduceGT, Int.reduceEq, Int.reduceNe, Int.le_refl, Nat.le_refl, Nat.reduceAdd, ne_eq, not_false_eq_true, reduceCtorEq, beq_true, beq_false, BEq.rfl, Bool.not_true, Bool.not_false, decide_true, decide_false, exists_prop, h1]
    · refine callX_by (awake_calls _) ?_
      rintro r hp2 ⟨rfl, rfl⟩
      simp only [go_sem, Int.natCast_nonneg, Nat.reduceEqDiff, Nat.reduceAdd, Nat.reduceSub, Nat.reduceLT, Nat.reduceMul, Nat.reduceBEq, Nat.reduceLeDiff, ↓reduceIte, Int.toNat_natCast, Int.reduceToNat, Int.toNat_zero, Int.toNat_one, not_true_eq_false, false_or, or_self, Nat.reduceGT, Option.isSome_some, Bool.and_self, Nat.zero_add, Nat.mul_one, List.length_map, List.take_length, Int.cast_ofNat_Int, Int.reduceLE, Int.reduceLT, Int.reduceGE, Int.reduceGT, Int.reduceEq, Int.reduceNe, Int.le_refl, Nat.le_refl, Nat.reduceAdd, ne_eq, not_false_eq_true, reduceCtorEq, beq_true, beq_false, BEq.rfl, Bool.not_true, Bool.not_false, decide_true, decide_false, exists_prop]
      exact ret_same ⟨rfl, rfl⟩
    · refine brK_mk (fun h2 => ?_) (fun h2 => ?_)
      · simp only [go_sem, Int.natCast_nonneg, Nat.reduceEqDiff, Nat.reduceAdd, Nat.reduceSub, Nat.reduceLT, Nat.reduceMul, Nat.reduceBEq, Nat.reduceLeDiff, ↓reduceIte, Int.toNat_natCast, Int.reduceToNat, Int.toNat_zero, Int.toNat_one, not_true_eq_false, false_or, or_self, Nat.reduceGT, Option.isSome_some, Bool.and_self, Nat.zero_add, Nat.mul_one, List.length_map, List.take_length, Int.cast_ofNat_Int, Int.reduceLE, Int.reduceLT, Int.reduceGE, Int.reduceGT, Int.reduceEq, Int.reduceNe, Int.le_refl, Nat.le_refl, Nat.reduceAdd, ne_eq, not_false_eq_true, reduceCtorEq, beq_true, beq_false, BEq.rfl, Bool.not_true, Bool.not_false, decide_true, decide_false, exists_prop, h2]
        refine callX_by (awake_calls _) ?_
        rintro r hp2 ⟨rfl, rfl⟩
        simp only [go_sem, Int.natCast_nonneg, Nat.reduceEqDiff, Nat.reduceAdd, Nat.reduceSub, Nat.reduceLT, Nat.reduceMul, Nat.reduceBEq, Nat.reduceLeDiff, ↓reduceIte, Int.toNat_natCast, Int.reduceToNat, Int.toNat_zero, Int.toNat_one, not_true_eq_false, false_or, or_self, Nat.reduceGT, Option.isSome_some, Bool.and_self, Nat.zero_add, Nat.mul_one, List.length_map, List.take_length, Int.cast_ofNat_Int, Int.reduceLE, Int.reduceLT, Int.reduceGE, Int.reduceGT, Int.reduceEq, Int.reduceNe, Int.le_refl, Nat.le_refl, Nat.reduceAdd, ne_eq, not_false_eq_true, reduceCtorEq, beq_true, beq_false, BEq.rfl, Bool.not_true, Bool.not_false, decide_true, decide_false, exists_prop]
        exact ret_same ⟨rfl, rfl⟩
      · exfalso; simp at h1 h2; omega
  · have hb' : ¬ (size < 0 ∨ size > 1048576) := fun h => by rw [newBad_iff.2 h] at hbad; cases hbad
    rw [show (hp.setBlk b 105 (HeapV size (.slice none 0 0) (.slice none 0 0) (.slice none 0 0) ⟨[], [], []⟩)).setSp (spE (.slice none 0 0) (.slice none 0 0) (.slice none 0 0) hp.sp) = HHp hp b size (.slice none 0 0) (.slice none 0 0) (.slice none 0 0) [] hp.sp from rfl]
    have hnil := okay_nil (size := size) (by omega) (by omega)
    simp only [go_sem, Int.natCast_nonneg, Nat.reduceEqDiff, Nat.reduceAdd, Nat.reduceSub, Nat.reduceLT, Nat.reduceMul, Nat.reduceBEq, Nat.reduceLeDiff, ↓reduceIte, Int.toNat_natCast, Int.reduceToNat, Int.toNat_zero, Int.toNat_one, not_true_eq_false, false_or, or_self, Nat.reduceGT, Option.isSome_some, Bool.and_self, Nat.zero_add, Nat.mul_one, List.length_map, List.take_length, Int.cast_ofNat_Int, Int.reduceLE, Int.reduceLT, Int.reduceGE, Int.reduceGT, Int.reduceEq, Int.reduceNe, Int.le_refl, Nat.le_refl, Nat.reduceAdd, ne_eq, not_false_eq_true, reduceCtorEq, beq_true, beq_false, BEq.rfl, Bool.not_true, Bool.not_false, decide_true, decide_false, exists_prop, iv, hptrAV]
    refine brK_mk (fun h1 => ?_) (fun h1 => ?_)
    · exfalso; simp at h1; omega
    simp only [go_sem, Int.natCast_nonneg, Nat.reduceEqDiff, Nat.reduceAdd, Nat.reduceSub, Nat.reduceLT, Nat.reduceMul, Nat.reduceBEq, Nat.reduceLeDiff, ↓reduceIte, Int.toNat_natCast, Int.reduceToNat, Int.toNat_zero, Int.toNat_one, not_true_eq_false, false_or, or_self, Nat.reduceGT, Option.isSome_some, Bool.and_self, Nat.zero_add, Nat.mul_one, List.length_map, List.take_length, Int.cast_ofNat_Int, Int.reduceLE, Int.reduceLT, Int.reduceGE, Int.reduceGT, Int.reduceEq, Int.reduceNe, Int.le_refl, Nat.le_refl, Nat.reduceAdd, ne_eq, not_false_eq_true, reduceCtorEq, beq_true, beq_false, BEq.rfl, Bool.not_true, Bool.not_false, decide_true, decide_false, exists_prop, h1]
    refine brK_mk (fun h2 => ?_) (fun h2 => ?_)
    · exfalso; simp at h2; omega
    simp only [go_sem, Int.natCast_nonneg, Nat.reduceEqDiff, Nat.reduceAdd, Nat.reduceSub, Nat.reduceLT, Nat.reduceMul, Nat.reduceBEq, Nat.reduceLeDiff, ↓reduceIte, Int.toNat_natCast, Int.reduceToNat, Int.toNat_zero, Int.toNat_one, not_true_eq_false, false_or, or_self, Nat.reduceGT, Option.isSome_some, Bool.and_self, Nat.zero_add, Nat.mul_one, List.length_map, List.take_length, Int.cast_ofNat_Int, Int.reduceLE, Int.reduceLT, Int.reduceGE, Int.reduceGT, Int.reduceEq, Int.reduceNe, Int.le_refl, Nat.le_refl, Nat.reduceAdd, ne_eq, not_false_eq_true, reduceCtorEq, beq_true, beq_false, BEq.rfl, Bool.not_true, Bool.not_false, decide_true, decide_false, exists_prop, h2]
    refine callX_by (few_calls h0 l _) ?_
    rintro r hp2 ⟨⟨bf, rfl⟩, rfl⟩
    cases bf with
    | false =>
      simp only [go_sem, Int.natCast_nonneg, Nat.reduceEqDiff, Nat.reduceAdd, Nat.reduceSub, Nat.reduceLT, Nat.reduceMul, Nat.reduceBEq, Nat.reduceLeDiff, ↓reduceIte, Int.toNat_natCast, Int.reduceToNat, Int.toNat_zero, Int.toNat_one, not_true_eq_false, false_or, or_self, Nat.reduceGT, Option.isSome_some, Bool.and_self, Nat.zero_add, Nat.mul_one, List.length_map, List.take_length, Int.cast_ofNat_Int, Int.reduceLE, Int.reduceLT, Int.reduceGE, Int.reduceGT, Int.reduceEq, Int.reduceNe, Int.le_refl, Nat.le_refl, Nat.reduceAdd, ne_eq, not_false_eq_true, reduceCtorEq, beq_true, beq_false, BEq.rfl, Bool.not_true, Bool.not_false, decide_true, decide_false, exists_prop]
      refine callX_by (awake_calls _) ?_
      rintro r hp2 ⟨rfl, rfl⟩
      simp only [go_sem, Int.natCast_nonneg, Nat.reduceEqDiff, Nat.reduceAdd, Nat.reduceSub, Nat.reduceLT, Nat.reduceMul, Nat.reduceBEq, Nat.reduceLeDiff, ↓reduceIte, Int.toNat_natCast, Int.reduceToNat, Int.toNat_zero, Int.toNat_one, not_true_eq_false, false_or, or_self, Nat.reduceGT, Option.isSome_some, Bool.and_self, Nat.zero_add, Nat.mul_one, List.length_map, List.take_length, Int.cast_ofNat_Int, Int.reduceLE, Int.reduceLT, Int.reduceGE, Int.reduceGT, Int.reduceEq, Int.reduceNe, Int.le_refl, Nat.le_refl, Nat.reduceAdd, ne_eq, not_false_eq_true, reduceCtorEq, beq_true, beq_false, BEq.rfl, Bool.not_true, Bool.not_false, decide_true, decide_false, exists_prop]
      exact ret_le (hp' := hp) (hhp_le hfr.1) ⟨rfl, rfl⟩
    | true =>
      simp only [go_sem, Int.natCast_nonneg, Nat.reduceEqDiff, Nat.reduceAdd, Nat.reduceSub, Nat.reduceLT, Nat.reduceMul, Nat.reduceBEq, Nat.reduceLeDiff, ↓reduceIte, Int.toNat_natCast, Int.reduceToNat, Int.toNat_zero, Int.toNat_one, not_true_eq_false, false_or, or_self, Nat.reduceGT, Option.isSome_some, Bool.and_self, Nat.zero_add, Nat.mul_one, List.length_map, List.take_length, Int.cast_ofNat_Int, Int.reduceLE, Int.reduceLT, Int.reduceGE, Int.reduceGT, Int.reduceEq, Int.reduceNe, Int.le_refl, Nat.le_refl, Nat.reduceAdd, ne_eq, not_false_eq_true, reduceCtorEq, beq_true, beq_false, BEq.rfl, Bool.not_true, Bool.not_false, decide_true, decide_false, exists_prop, opsAV]
      intro b7 hb7
      have n7 : b ≠ b7 := by rintro rfl; have := hb7.1; rw [hhp_blk] at this; cases this
      have hb7n : hp.blk b7 = none := by have := hb7.1; simpa [HHp, Hp.setBlk, Hp.setSp, Ne.symm n7] using this
      refine castBlk_by b7 31 [.v (.int .i64 size), .v (.slice none 0 0)] [.v (.int .i64 size), .lst 3 (.slice none 0 0) []] (by simp [go_sem]) rfl (fun m _ => ⟨trivial, (Cast.nil 3).2 m trivial, trivial⟩) ?_
      simp only [go_sem, Int.natCast_nonneg, Nat.reduceEqDiff, Nat.reduceAdd, Nat.reduceSub, Nat.reduceLT, Nat.reduceMul, Nat.reduceBEq, Nat.reduceLeDiff, ↓reduceIte, Int.toNat_natCast, Int.reduceToNat, Int.toNat_zero, Int.toNat_one, not_true_eq_false, false_or, or_self, Nat.reduceGT, Option.isSome_some, Bool.and_self, Nat.zero_add, Nat.mul_one, List.length_map, List.take_length, Int.cast_ofNat_Int, Int.reduceLE, Int.reduceLT, Int.reduceGE, Int.reduceGT, Int.reduceEq, Int.reduceNe, Int.le_refl, Nat.le_refl, Nat.reduceAdd, ne_eq, not_false_eq_true, reduceCtorEq, beq_true, beq_false, BEq.rfl, Bool.not_true, Bool.not_false, decide_true, decide_false, exists_prop, Hp.set_set]
      refine aw_loopX 103 (fun x : DoesG => [(0, .v (.int .i64 size)), (5, hptrAV x.hb), (7, .v (.pointer (some ⟨b7, 0, none⟩))), (45, .lst 4 h0 (l.map OpG.av)), (46, .v (.int .i64 l.length)), (47, .v (.int .i64 x.k))])
        (fun x => HHp (hp.setBlk b7 31 [.v (.int .i64 size), objsAV x.ho x.l]) x.hb size x.c x.s x.o x.G hp.sp) (fun x => x.k ≤ l.length ∧ DoesI size x.G x.l ∧ hp.blk x.hb = none ∧ x.hb ≠ b7) (fun x => l.length - x.k) ⟨0, b, .slice none 0 0, .slice none 0 0, .slice none 0 0, .slice none 0 0, [], []⟩ ⟨Nat.zero_le _, ⟨hnil, rfl⟩, hfr.1, n7⟩
        (le_mkSl rfl (by
          simp only [go_sem, Int.natCast_nonneg, Nat.reduceEqDiff, Nat.reduceAdd, Nat.reduceSub, Nat.reduceLT, Nat.reduceMul, Nat.reduceBEq, Nat.reduceLeDiff, ↓reduceIte, Int.toNat_natCast, Int.reduceToNat, Int.toNat_zero, Int.toNat_one, not_true_eq_false, false_or, or_self, Nat.reduceGT, Option.isSome_some, Bool.and_self, Nat.zero_add, Nat.mul_one, List.length_map, List.take_length, Int.cast_ofNat_Int, Int.reduceLE, Int.reduceLT, Int.reduceGE, Int.reduceGT, Int.reduceEq, Int.reduceNe, Int.le_refl, Nat.le_refl, Nat.reduceAdd, ne_eq, not_false_eq_true, reduceCtorEq, beq_true, beq_false, BEq.rfl, Bool.not_true, Bool.not_false, decide_true, decide_false, exists_prop]
          refine ⟨fun i x hi => ?_, fun _ _ h => h, List.Sublist.refl _, fun _ h => h⟩
          by_cases e : i = b7
          · subst e; simpa [HHp, Hp.setBlk, Hp.setSp, Ne.symm n7, objsAV] using hi
          · simpa [HHp, Hp.setBlk, Hp.setSp, e] using hi) (by simp [go_sem, hptrAV])) ?_
      rintro ⟨k, hb, c, s, o, ho', G, l'⟩ ⟨hk, ⟨hok, hm⟩, hbn, nb7⟩
      simp only at hk hok hm hbn nb7
      have hX : (hp.setBlk b7 31 [.v (.int .i64 size), objsAV ho' l']).blk hb = none := by rw [Hp.setBlk_blk, if_neg nb7]; exact hbn
      refine awp_sound (mu := [7, 9, 11]) _ _ _ ?_
      simp only [go_sem, Int.natCast_nonneg, Nat.reduceEqDiff, Nat.reduceAdd, Nat.reduceSub, Nat.reduceLT, Nat.reduceMul, Nat.reduceBEq, Nat.reduceLeDiff, ↓reduceIte, Int.toNat_natCast, Int.reduceToNat, Int.toNat_zero, Int.toNat_one, not_true_eq_false, false_or, or_self, Nat.reduceGT, Option.isSome_some, Bool.and_self, Nat.zero_add, Nat.mul_one, List.length_map, List.take_length, Int.cast_ofNat_Int, Int.reduceLE, Int.reduceLT, Int.reduceGE, Int.reduceGT, Int.reduceEq, Int.reduceNe, Int.le_refl, Nat.le_refl, Nat.reduceAdd, ne_eq, not_false_eq_true, reduceCtorEq, beq_true, beq_false, BEq.rfl, Bool.not_true, Bool.not_false, decide_true, decide_false, exists_prop, hptrAV]
      refine brK_mk (fun h1 => ?_) (fun h1 => ?_) <;> simp only [go_sem, Int.natCast_nonneg, Nat.reduceEqDiff, Nat.reduceAdd, Nat.reduceSub, Nat.reduceLT, Nat.reduceMul, Nat.reduceBEq, Nat.reduceLeDiff, ↓reduceIte, Int.toNat_natCast, Int.reduceToNat, Int.toNat_zero, Int.toNat_one, not_true_eq_false, false_or, or_self, Nat.reduceGT, Option.isSome_some, Bool.and_self, Nat.zero_add, Nat.mul_one, List.length_map, List.take_length, Int.cast_ofNat_Int, Int.reduceLE, Int.reduceLT, Int.reduceGE, Int.reduceGT, Int.reduceEq, Int.reduceNe, Int.le_refl, Nat.le_refl, Nat.reduceAdd, ne_eq, not_false_eq_true, reduceCtorEq, beq_true, beq_false, BEq.rfl, Bool.not_true, Bool.not_false, decide_true, decide_false, exists_prop, h1]
      · have hk' : k < l.length := by simpa using h1
        obtain ⟨x, hx⟩ := some_at' l k hk'
        have hwx := hw x (List.mem_of_getElem? hx)
        have hwu := upW k _ hk' hl
        have hok' := step_okay hok x
        simp only [go_sem, Int.natCast_nonneg, Nat.reduceEqDiff, Nat.reduceAdd, Nat.reduceSub, Nat.reduceLT, Nat.reduceMul, Nat.reduceBEq, Nat.reduceLeDiff, ↓reduceIte, Int.toNat_natCast, Int.reduceToNat, Int.toNat_zero, Int.toNat_one, not_true_eq_false, false_or, or_self, Nat.reduceGT, Option.isSome_some, Bool.and_self, Nat.zero_add, Nat.mul_one, List.length_map, List.take_length, Int.cast_ofNat_Int, Int.reduceLE, Int.reduceLT, Int.reduceGE, Int.reduceGT, Int.reduceEq, Int.reduceNe, Int.le_refl, Nat.le_refl, Nat.reduceAdd, ne_eq, not_false_eq_true, reduceCtorEq, beq_true, beq_false, BEq.rfl, Bool.not_true, Bool.not_false, decide_true, decide_false, exists_prop, map_at' OpG.av _ _ _ hx, OpG.av, OpG.cs, iv, wordsAV]
        intro b9 hb9
        have n9 : b9 ≠ hb := by rintro rfl; have := hb9.1; rw [hhp_blk] at this; cases this
        have n79 : b7 ≠ b9 := by rintro rfl; have := hb9.1; simp [HHp, Hp.setBlk, Hp.setSp, Ne.symm nb7] at this
        have hb9n : hp.blk b9 = none := by have := hb9.1; simpa [HHp, Hp.setBlk, Hp.setSp, n9, Ne.symm n79] using this
        generalize hXd : (hp.setBlk b7 31 [.v (.int .i64 size), objsAV ho' l']).setBlk b9 34 [.v (.int .i64 x.d), .v (.int .i64 x.a), .v (.int .i64 x.i), .lst 2 x.h (x.ws.map WordG.av)] = X9
        have hX9 : ∀ i, X9.blk i = if i = b9 then some (34, [.v (.int .i64 x.d), .v (.int .i64 x.a), .v (.int .i64 x.i), .lst 2 x.h (x.ws.map WordG.av)]) else if i = b7 then some (31, [.v (.int .i64 size), objsAV ho' l']) else hp.blk i := fun i => by rw [← hXd, Hp.setBlk_blk, Hp.setBlk_blk]
        have hXmp : X9.mp = hp.mp := by rw [← hXd]; rfl
        have hXgl : X9.gl = hp.gl := by rw [← hXd]; rfl
        have hXsp : X9.sp = hp.sp := by rw [← hXd]; rfl
        have hXb : X9.blk hb = none := by rw [hX9, if_neg (Ne.symm n9), if_neg nb7]; exact hbn
        have hY : (HHp X9 hb size c s o G hp.sp).le ((HHp (hp.setBlk b7 31 [.v (.int .i64 size), objsAV ho' l']) hb size c s o G hp.sp).setBlk b9 34 [.v (.int .i64 x.d), .v (.int .i64 x.a), .v (.int .i64 x.i), .lst 2 x.h (x.ws.map WordG.av)]) := by
          rw [← hXd]
          refine ⟨fun i x hi => ?_, fun _ _ h => h, List.Sublist.refl _, fun _ h => h⟩
          by_cases e : i = b9
          · subst e; simpa [HHp, Hp.setBlk, Hp.setSp, n9] using hi
          · simpa [HHp, Hp.setBlk, Hp.setSp, e] using hi
        refine brK_mk (fun h2 => ?_) (fun h2 => ?_) <;> simp only [go_sem, Int.natCast_nonneg, Nat.reduceEqDiff, Nat.reduceAdd, Nat.reduceSub, Nat.reduceLT, Nat.reduceMul, Nat.reduceBEq, Nat.reduceLeDiff, ↓reduceIte, Int.toNat_natCast, Int.reduceToNat, Int.toNat_zero, Int.toNat_one, not_true_eq_false, false_or, or_self, Nat.reduceGT, Option.isSome_some, Bool.and_self, Nat.zero_add, Nat.mul_one, List.length_map, List.take_length, Int.cast_ofNat_Int, Int.reduceLE, Int.reduceLT, Int.reduceGE, Int.reduceGT, Int.reduceEq, Int.reduceNe, Int.le_refl, Nat.le_refl, Nat.reduceAdd, ne_eq, not_false_eq_true, reduceCtorEq, beq_true, beq_false, BEq.rfl, Bool.not_true, Bool.not_false, decide_true, decide_false, exists_prop, h2]
        · skip
          refine callX_by (fork2_calls hok hXb (by rw [hXsp]; exact hY)) ?_
          rintro r hp3 ⟨hb2, c1, s1, o1, rfl, hb2n, rfl⟩
          rw [hXsp]
          rw [hX9] at hb2n
          have nb92 : hb2 ≠ b9 := by rintro rfl; simp at hb2n
          have nb72 : hb2 ≠ b7 := by rintro rfl; simp [nb92] at hb2n
          have hbn2 : hp.blk hb2 = none := by simpa [nb92, nb72] using hb2n
          simp only [HHp, go_sem, Int.natCast_nonneg, Nat.reduceEqDiff, Nat.reduceAdd, Nat.reduceSub, Nat.reduceLT, Nat.reduceMul, Nat.reduceBEq, Nat.reduceLeDiff, ↓reduceIte, Int.toNat_natCast, Int.reduceToNat, Int.toNat_zero, Int.toNat_one, not_true_eq_false, false_or, or_self, Nat.reduceGT, Option.isSome_some, Bool.and_self, Nat.zero_add, Nat.mul_one, List.length_map, List.take_length, Int.cast_ofNat_Int, Int.reduceLE, Int.reduceLT, Int.reduceGE, Int.reduceGT, Int.reduceEq, Int.reduceNe, Int.le_refl, Nat.le_refl, Nat.reduceAdd, ne_eq, not_false_eq_true, reduceCtorEq, beq_true, beq_false, BEq.rfl, Bool.not_true, Bool.not_false, decide_true, decide_false, exists_prop, hptrAV, hX9, nb72, Ne.symm nb72, nb92, Ne.symm nb92, n79, Ne.symm n79]
          refine callX_by (do2_calls (X := X9) (hb := hb2) (size := size) (c := c1) (s := s1) (o := o1) (l2 := hp.sp) hok (Hp.le_refl _) ho' hm x hwx) ?_
          rintro r hp3 ⟨ho2, l2, c2, s2, o2, rfl, hm2, rfl⟩
          generalize stepG size G x = G2 at *
          simp only [go_sem, Int.natCast_nonneg, Nat.reduceEqDiff, Nat.reduceAdd, Nat.reduceSub, Nat.reduceLT, Nat.reduceMul, Nat.reduceBEq, Nat.reduceLeDiff, ↓reduceIte, Int.toNat_natCast, Int.reduceToNat, Int.toNat_zero, Int.toNat_one, not_true_eq_false, false_or, or_self, Nat.reduceGT, Option.isSome_some, Bool.and_self, Nat.zero_add, Nat.mul_one, List.length_map, List.take_length, Int.cast_ofNat_Int, Int.reduceLE, Int.reduceLT, Int.reduceGE, Int.reduceGT, Int.reduceEq, Int.reduceNe, Int.le_refl, Nat.le_refl, Nat.reduceAdd, ne_eq, not_false_eq_true, reduceCtorEq, beq_true, beq_false, BEq.rfl, Bool.not_true, Bool.not_false, decide_true, decide_false, exists_prop, modelAV, modelC, objsAV, HHp, hX9, nb72, Ne.symm nb72, n79, Ne.symm n79]
          refine draw_by (mu := [7, 9, 11]) (fun h => h.blk b7 = some (31, [.v (.int .i64 size), .lst 3 ho2 (l2.map RObj.av)])) (.take 0 (.take 1 (.take 2 (.take 3 (.take 5 (.br 4 (.br 6 (.take 7 (.take 8 (.take 9 (.take 10 (.take 12 (.br 11 (.br 13 (.br 14 (.take 15 (.take 16 (.done))) (.stop)) (.stop)) (.stop))))))) (.stop)) (.stop))))))) (by decide +kernel) (by simp only [go_sem, Int.natCast_nonneg, Nat.reduceEqDiff, Nat.reduceAdd, Nat.reduceSub, Nat.reduceLT, Nat.reduceMul, Nat.reduceBEq, Nat.reduceLeDiff, ↓reduceIte, Int.toNat_natCast, Int.reduceToNat, Int.toNat_zero, Int.toNat_one, not_true_eq_false, false_or, or_self, Nat.reduceGT, Option.isSome_some, Bool.and_self, Nat.zero_add, Nat.mul_one, List.length_map, List.take_length, Int.cast_ofNat_Int, Int.reduceLE, Int.reduceLT, Int.reduceGE, Int.reduceGT, Int.reduceEq, Int.reduceNe, Int.le_refl, Nat.le_refl, Nat.reduceAdd, ne_eq, not_false_eq_true, reduceCtorEq, beq_true, beq_false, BEq.rfl, Bool.not_true, Bool.not_false, decide_true, decide_false, exists_prop]) (by decide +kernel) (by decide +kernel) ?_
          simp only [go_sem, Int.natCast_nonneg, Nat.reduceEqDiff, Nat.reduceAdd, Nat.reduceSub, Nat.reduceLT, Nat.reduceMul, Nat.reduceBEq, Nat.reduceLeDiff, ↓reduceIte, Int.toNat_natCast, Int.reduceToNat, Int.toNat_zero, Int.toNat_one, not_true_eq_false, false_or, or_self, Nat.reduceGT, Option.isSome_some, Bool.and_self, Nat.zero_add, Nat.mul_one, List.length_map, List.take_length, Int.cast_ofNat_Int, Int.reduceLE, Int.reduceLT, Int.reduceGE, Int.reduceGT, Int.reduceEq, Int.reduceNe, Int.le_refl, Nat.le_refl, Nat.reduceAdd, ne_eq, not_false_eq_true, reduceCtorEq, beq_true, beq_false, BEq.rfl, Bool.not_true, Bool.not_false, decide_true, decide_false, exists_prop]
          refine ⟨fun h e => by rw [e]; simp only [go_sem, Int.natCast_nonneg, Nat.reduceEqDiff, Nat.reduceAdd, Nat.reduceSub, Nat.reduceLT, Nat.reduceMul, Nat.reduceBEq, Nat.reduceLeDiff, ↓reduceIte, Int.toNat_natCast, Int.reduceToNat, Int.toNat_zero, Int.toNat_one, not_true_eq_false, false_or, or_self, Nat.reduceGT, Option.isSome_some, Bool.and_self, Nat.zero_add, Nat.mul_one, List.length_map, List.take_length, Int.cast_ofNat_Int, Int.reduceLE, Int.reduceLT, Int.reduceGE, Int.reduceGT, Int.reduceEq, Int.reduceNe, Int.le_refl, Nat.le_refl, Nat.reduceAdd, ne_eq, not_false_eq_true, reduceCtorEq, beq_true, beq_false, BEq.rfl, Bool.not_true, Bool.not_false, decide_true, decide_false, exists_prop], ?_⟩
          have hN2 := hok'.n
          have hGl2 := len_endO G2
          have hc12 : (spOf G2).c.length = endO G2 := cellsO_len G2
          have hblkZ : (((X9.setBlk hb2 105 (HeapV size c2 s2 o2 (spOf G2))).setSp (spE c2 s2 o2 hp.sp)).setBlk b7 31 [.v (.int .i64 size), .lst 3 ho2 (l2.map RObj.av)]).blk hb2 = some (105, HeapV size c2 s2 o2 (spOf G2)) := by simp [Hp.setBlk, Hp.setSp, nb72]
          refine callX_by (usedH_calls hblkZ) ?_
          rintro r hp4 ⟨rfl, rfl⟩
          simp only [go_sem, Int.natCast_nonneg, Nat.reduceEqDiff, Nat.reduceAdd, Nat.reduceSub, Nat.reduceLT, Nat.reduceMul, Nat.reduceBEq, Nat.reduceLeDiff, ↓reduceIte, Int.toNat_natCast, Int.reduceToNat, Int.toNat_zero, Int.toNat_one, not_true_eq_false, false_or, or_self, Nat.reduceGT, Option.isSome_some, Bool.and_self, Nat.zero_add, Nat.mul_one, List.length_map, List.take_length, Int.cast_ofNat_Int, Int.reduceLE, Int.reduceLT, Int.reduceGE, Int.reduceGT, Int.reduceEq, Int.reduceNe, Int.le_refl, Nat.le_refl, Nat.reduceAdd, ne_eq, not_false_eq_true, reduceCtorEq, beq_true, beq_false, BEq.rfl, Bool.not_true, Bool.not_false, decide_true, decide_false, exists_prop, iv, hc12]
          refine callX_by (used_calls size ho2 hm2 (by omega) _) ?_
          rintro r hp4 ⟨rfl, rfl⟩
          simp only [go_sem, Int.natCast_nonneg, Nat.reduceEqDiff, Nat.reduceAdd, Nat.reduceSub, Nat.reduceLT, Nat.reduceMul, Nat.reduceBEq, Nat.reduceLeDiff, ↓reduceIte, Int.toNat_natCast, Int.reduceToNat, Int.toNat_zero, Int.toNat_one, not_true_eq_false, false_or, or_self, Nat.reduceGT, Option.isSome_some, Bool.and_self, Nat.zero_add, Nat.mul_one, List.length_map, List.take_length, Int.cast_ofNat_Int, Int.reduceLE, Int.reduceLT, Int.reduceGE, Int.reduceGT, Int.reduceEq, Int.reduceNe, Int.le_refl, Nat.le_refl, Nat.reduceAdd, ne_eq, not_false_eq_true, reduceCtorEq, beq_true, beq_false, BEq.rfl, Bool.not_true, Bool.not_false, decide_true, decide_false, exists_prop]
          refine ⟨fun h e => by rw [e]; simp only [go_sem, Int.natCast_nonneg, Nat.reduceEqDiff, Nat.reduceAdd, Nat.reduceSub, Nat.reduceLT, Nat.reduceMul, Nat.reduceBEq, Nat.reduceLeDiff, ↓reduceIte, Int.toNat_natCast, Int.reduceToNat, Int.toNat_zero, Int.toNat_one, not_true_eq_false, false_or, or_self, Nat.reduceGT, Option.isSome_some, Bool.and_self, Nat.zero_add, Nat.mul_one, List.length_map, List.take_length, Int.cast_ofNat_Int, Int.reduceLE, Int.reduceLT, Int.reduceGE, Int.reduceGT, Int.reduceEq, Int.reduceNe, Int.le_refl, Nat.le_refl, Nat.reduceAdd, ne_eq, not_false_eq_true, reduceCtorEq, beq_true, beq_false, BEq.rfl, Bool.not_true, Bool.not_false, decide_true, decide_false, exists_prop], ?_⟩
          refine callX_by (objectsH_calls hblkZ (by rw [show (spOf G2).o.length = G2.length from addrsF_len 0 G2]; omega)) ?_
          rintro r hp4 ⟨⟨h81, rfl⟩, rfl⟩
          simp only [go_sem, Int.natCast_nonneg, Nat.reduceEqDiff, Nat.reduceAdd, Nat.reduceSub, Nat.reduceLT, Nat.reduceMul, Nat.reduceBEq, Nat.reduceLeDiff, ↓reduceIte, Int.toNat_natCast, Int.reduceToNat, Int.toNat_zero, Int.toNat_one, not_true_eq_false, false_or, or_self, Nat.reduceGT, Option.isSome_some, Bool.and_self, Nat.zero_add, Nat.mul_one, List.length_map, List.take_length, Int.cast_ofNat_Int, Int.reduceLE, Int.reduceLT, Int.reduceGE, Int.reduceGT, Int.reduceEq, Int.reduceNe, Int.le_refl, Nat.le_refl, Nat.reduceAdd, ne_eq, not_false_eq_true, reduceCtorEq, beq_true, beq_false, BEq.rfl, Bool.not_true, Bool.not_false, decide_true, decide_false, exists_prop]
          refine callX_by (addresses_calls size ho2 hm2 (by omega) _) ?_
          rintro r hp4 ⟨⟨h83, rfl⟩, rfl⟩
          simp only [go_sem, Int.natCast_nonneg, Nat.reduceEqDiff, Nat.reduceAdd, Nat.reduceSub, Nat.reduceLT, Nat.reduceMul, Nat.reduceBEq, Nat.reduceLeDiff, ↓reduceIte, Int.toNat_natCast, Int.reduceToNat, Int.toNat_zero, Int.toNat_one, not_true_eq_false, false_or, or_self, Nat.reduceGT, Option.isSome_some, Bool.and_self, Nat.zero_add, Nat.mul_one, List.length_map, List.take_length, Int.cast_ofNat_Int, Int.reduceLE, Int.reduceLT, Int.reduceGE, Int.reduceGT, Int.reduceEq, Int.reduceNe, Int.le_refl, Nat.le_refl, Nat.reduceAdd, ne_eq, not_false_eq_true, reduceCtorEq, beq_true, beq_false, BEq.rfl, Bool.not_true, Bool.not_false, decide_true, decide_false, exists_prop]
          refine callX_by (ints_calls h81 h83 (addrsF 0 G2) (addrsF 0 G2) _) ?_
          rintro r hp4 ⟨rfl, rfl⟩
          have hie : sameL (fun x y : Int => decide (x = y)) (addrsF 0 G2) (addrsF 0 G2) = true := (ints_iff _ _).2 rfl
          simp only [go_sem, Int.natCast_nonneg, Nat.reduceEqDiff, Nat.reduceAdd, Nat.reduceSub, Nat.reduceLT, Nat.reduceMul, Nat.reduceBEq, Nat.reduceLeDiff, ↓reduceIte, Int.toNat_natCast, Int.reduceToNat, Int.toNat_zero, Int.toNat_one, not_true_eq_false, false_or, or_self, Nat.reduceGT, Option.isSome_some, Bool.and_self, Nat.zero_add, Nat.mul_one, List.length_map, List.take_length, Int.cast_ofNat_Int, Int.reduceLE, Int.reduceLT, Int.reduceGE, Int.reduceGT, Int.reduceEq, Int.reduceNe, Int.le_refl, Nat.le_refl, Nat.reduceAdd, ne_eq, not_false_eq_true, reduceCtorEq, beq_true, beq_false, BEq.rfl, Bool.not_true, Bool.not_false, decide_true, decide_false, exists_prop, hie, hwu]
          refine ⟨⟨k + 1, hb2, c2, s2, o2, ho2, G2, l2⟩, by simp only; omega, ⟨by simp only; omega, ⟨hok', hm2⟩, hbn2, nb72⟩, le_mkSl rfl ?_ ?_⟩
          · simp only [go_sem, Int.natCast_nonneg, Nat.reduceEqDiff, Nat.reduceAdd, Nat.reduceSub, Nat.reduceLT, Nat.reduceMul, Nat.reduceBEq, Nat.reduceLeDiff, ↓reduceIte, Int.toNat_natCast, Int.reduceToNat, Int.toNat_zero, Int.toNat_one, not_true_eq_false, false_or, or_self, Nat.reduceGT, Option.isSome_some, Bool.and_self, Nat.zero_add, Nat.mul_one, List.length_map, List.take_length, Int.cast_ofNat_Int, Int.reduceLE, Int.reduceLT, Int.reduceGE, Int.reduceGT, Int.reduceEq, Int.reduceNe, Int.le_refl, Nat.le_refl, Nat.reduceAdd, ne_eq, not_false_eq_true, reduceCtorEq, beq_true, beq_false, BEq.rfl, Bool.not_true, Bool.not_false, decide_true, decide_false, exists_prop]
            refine ⟨fun i x hi => ?_, fun i x hi => ?_, ?_, fun x hi => ?_⟩
            · simp only [HHp, Hp.setSp, Hp.setBlk, hX9, objsAV] at hi ⊢
              by_cases e1 : i = b7
              · subst e1; simpa [Ne.symm nb72] using hi
              · by_cases e2 : i = hb2
                · subst e2; simpa [nb72] using hi
                · simp only [if_neg e1, if_neg e2] at hi ⊢
                  by_cases e3 : i = b9
                  · subst e3; rw [hb9n] at hi; cases hi
                  · simpa [e3] using hi
            · exact hXmp ▸ hi
            · exact List.Sublist.refl _
            · exact hXgl ▸ hi
          · simp [go_sem, hptrAV]
        · refine brK_mk (fun h3 => ?_) (fun h3 => ?_) <;> simp only [go_sem, Int.natCast_nonneg, Nat.reduceEqDiff, Nat.reduceAdd, Nat.reduceSub, Nat.reduceLT, Nat.reduceMul, Nat.reduceBEq, Nat.reduceLeDiff, ↓reduceIte, Int.toNat_natCast, Int.reduceToNat, Int.toNat_zero, Int.toNat_one, not_true_eq_false, false_or, or_self, Nat.reduceGT, Option.isSome_some, Bool.and_self, Nat.zero_add, Nat.mul_one, List.length_map, List.take_length, Int.cast_ofNat_Int, Int.reduceLE, Int.reduceLT, Int.reduceGE, Int.reduceGT, Int.reduceEq, Int.reduceNe, Int.le_refl, Nat.le_refl, Nat.reduceAdd, ne_eq, not_false_eq_true, reduceCtorEq, beq_true, beq_false, BEq.rfl, Bool.not_true, Bool.not_false, decide_true, decide_false, exists_prop, h3]
          · skip
            refine callX_by (fork2_calls hok hXb (by rw [hXsp]; exact hY)) ?_
            rintro r hp3 ⟨hb2, c1, s1, o1, rfl, hb2n, rfl⟩
            rw [hXsp]
            rw [hX9] at hb2n
            have nb92 : hb2 ≠ b9 := by rintro rfl; simp at hb2n
            have nb72 : hb2 ≠ b7 := by rintro rfl; simp [nb92] at hb2n
            have hbn2 : hp.blk hb2 = none := by simpa [nb92, nb72] using hb2n
            simp only [HHp, go_sem, Int.natCast_nonneg, Nat.reduceEqDiff, Nat.reduceAdd, Nat.reduceSub, Nat.reduceLT, Nat.reduceMul, Nat.reduceBEq, Nat.reduceLeDiff, ↓reduceIte, Int.toNat_natCast, Int.reduceToNat, Int.toNat_zero, Int.toNat_one, not_true_eq_false, false_or, or_self, Nat.reduceGT, Option.isSome_some, Bool.and_self, Nat.zero_add, Nat.mul_one, List.length_map, List.take_length, Int.cast_ofNat_Int, Int.reduceLE, Int.reduceLT, Int.reduceGE, Int.reduceGT, Int.reduceEq, Int.reduceNe, Int.le_refl, Nat.le_refl, Nat.reduceAdd, ne_eq, not_false_eq_true, reduceCtorEq, beq_true, beq_false, BEq.rfl, Bool.not_true, Bool.not_false, decide_true, decide_false, exists_prop, hptrAV, hX9, nb72, Ne.symm nb72, nb92, Ne.symm nb92, n79, Ne.symm n79]
            refine callX_by (do2_calls (X := X9) (hb := hb2) (size := size) (c := c1) (s := s1) (o := o1) (l2 := hp.sp) hok (Hp.le_refl _) ho' hm x hwx) ?_
            rintro r hp3 ⟨ho2, l2, c2, s2, o2, rfl, hm2, rfl⟩
            generalize stepG size G x = G2 at *
            simp only [go_sem, Int.natCast_nonneg, Nat.reduceEqDiff, Nat.reduceAdd, Nat.reduceSub, Nat.reduceLT, Nat.reduceMul, Nat.reduceBEq, Nat.reduceLeDiff, ↓reduceIte, Int.toNat_natCast, Int.reduceToNat, Int.toNat_zero, Int.toNat_one, not_true_eq_false, false_or, or_self, Nat.reduceGT, Option.isSome_some, Bool.and_self, Nat.zero_add, Nat.mul_one, List.length_map, List.take_length, Int.cast_ofNat_Int, Int.reduceLE, Int.reduceLT, Int.reduceGE, Int.reduceGT, Int.reduceEq, Int.reduceNe, Int.le_refl, Nat.le_refl, Nat.reduceAdd, ne_eq, not_false_eq_true, reduceCtorEq, beq_true, beq_false, BEq.rfl, Bool.not_true, Bool.not_false, decide_true, decide_false, exists_prop, modelAV, modelC, objsAV, HHp, hX9, nb72, Ne.symm nb72, n79, Ne.symm n79]
            refine draw_by (mu := [7, 9, 11]) (fun h => h.blk b7 = some (31, [.v (.int .i64 size), .lst 3 ho2 (l2.map RObj.av)])) (.take 0 (.take 1 (.take 2 (.take 3 (.take 5 (.br 4 (.br 6 (.take 7 (.take 8 (.take 9 (.take 10 (.take 12 (.br 11 (.br 13 (.br 14 (.take 15 (.take 16 (.done))) (.stop)) (.stop)) (.stop))))))) (.stop)) (.stop))))))) (by decide +kernel) (by simp only [go_sem, Int.natCast_nonneg, Nat.reduceEqDiff, Nat.reduceAdd, Nat.reduceSub, Nat.reduceLT, Nat.reduceMul, Nat.reduceBEq, Nat.reduceLeDiff, ↓reduceIte, Int.toNat_natCast, Int.reduceToNat, Int.toNat_zero, Int.toNat_one, not_true_eq_false, false_or, or_self, Nat.reduceGT, Option.isSome_some, Bool.and_self, Nat.zero_add, Nat.mul_one, List.length_map, List.take_length, Int.cast_ofNat_Int, Int.reduceLE, Int.reduceLT, Int.reduceGE, Int.reduceGT, Int.reduceEq, Int.reduceNe, Int.le_refl, Nat.le_refl, Nat.reduceAdd, ne_eq, not_false_eq_true, reduceCtorEq, beq_true, beq_false, BEq.rfl, Bool.not_true, Bool.not_false, decide_true, decide_false, exists_prop]) (by decide +kernel) (by decide +kernel) ?_
            simp only [go_sem, Int.natCast_nonneg, Nat.reduceEqDiff, Nat.reduceAdd, Nat.reduceSub, Nat.reduceLT, Nat.reduceMul, Nat.reduceBEq, Nat.reduceLeDiff, ↓reduceIte, Int.toNat_natCast, Int.reduceToNat, Int.toNat_zero, Int.toNat_one, not_true_eq_false, false_or, or_self, Nat.reduceGT, Option.isSome_some, Bool.and_self, Nat.zero_add, Nat.mul_one, List.length_map, List.take_length, Int.cast_ofNat_Int, Int.reduceLE, Int.reduceLT, Int.reduceGE, Int.reduceGT, Int.reduceEq, Int.reduceNe, Int.le_refl, Nat.le_refl, Nat.reduceAdd, ne_eq, not_false_eq_true, reduceCtorEq, beq_true, beq_false, BEq.rfl, Bool.not_true, Bool.not_false, decide_true, decide_false, exists_prop]
            refine ⟨fun h e => by rw [e]; simp only [go_sem, Int.natCast_nonneg, Nat.reduceEqDiff, Nat.reduceAdd, Nat.reduceSub, Nat.reduceLT, Nat.reduceMul, Nat.reduceBEq, Nat.reduceLeDiff, ↓reduceIte, Int.toNat_natCast, Int.reduceToNat, Int.toNat_zero, Int.toNat_one, not_true_eq_false, false_or, or_self, Nat.reduceGT, Option.isSome_some, Bool.and_self, Nat.zero_add, Nat.mul_one, List.length_map, List.take_length, Int.cast_ofNat_Int, Int.reduceLE, Int.reduceLT, Int.reduceGE, Int.reduceGT, Int.reduceEq, Int.reduceNe, Int.le_refl, Nat.le_refl, Nat.reduceAdd, ne_eq, not_false_eq_true, reduceCtorEq, beq_true, beq_false, BEq.rfl, Bool.not_true, Bool.not_false, decide_true, decide_false, exists_prop], ?_⟩
            have hN2 := hok'.n
            have hGl2 := len_endO G2
            have hc12 : (spOf G2).c.length = endO G2 := cellsO_len G2
            have hblkZ : (((X9.setBlk hb2 105 (HeapV size c2 s2 o2 (spOf G2))).setSp (spE c2 s2 o2 hp.sp)).setBlk b7 31 [.v (.int .i64 size), .lst 3 ho2 (l2.map RObj.av)]).blk hb2 = some (105, HeapV size c2 s2 o2 (spOf G2)) := by simp [Hp.setBlk, Hp.setSp, nb72]
            refine callX_by (usedH_calls hblkZ) ?_
            rintro r hp4 ⟨rfl, rfl⟩
            simp only [go_sem, Int.natCast_nonneg, Nat.reduceEqDiff, Nat.reduceAdd, Nat.reduceSub, Nat.reduceLT, Nat.reduceMul, Nat.reduceBEq, Nat.reduceLeDiff, ↓reduceIte, Int.toNat_natCast, Int.reduceToNat, Int.toNat_zero, Int.toNat_one, not_true_eq_false, false_or, or_self, Nat.reduceGT, Option.isSome_some, Bool.and_self, Nat.zero_add, Nat.mul_one, List.length_map, List.take_length, Int.cast_ofNat_Int, Int.reduceLE, Int.reduceLT, Int.reduceGE, Int.reduceGT, Int.reduceEq, Int.reduceNe, Int.le_refl, Nat.le_refl, Nat.reduceAdd, ne_eq, not_false_eq_true, reduceCtorEq, beq_true, beq_false, BEq.rfl, Bool.not_true, Bool.not_false, decide_true, decide_false, exists_prop, iv, hc12]
            refine callX_by (used_calls size ho2 hm2 (by omega) _) ?_
            rintro r hp4 ⟨rfl, rfl⟩
            simp only [go_sem, Int.natCast_nonneg, Nat.reduceEqDiff, Nat.reduceAdd, Nat.reduceSub, Nat.reduceLT, Nat.reduceMul, Nat.reduceBEq, Nat.reduceLeDiff, ↓reduceIte, Int.toNat_natCast, Int.reduceToNat, Int.toNat_zero, Int.toNat_one, not_true_eq_false, false_or, or_self, Nat.reduceGT, Option.isSome_some, Bool.and_self, Nat.zero_add, Nat.mul_one, List.length_map, List.take_length, Int.cast_ofNat_Int, Int.reduceLE, Int.reduceLT, Int.reduceGE, Int.reduceGT, Int.reduceEq, Int.reduceNe, Int.le_refl, Nat.le_refl, Nat.reduceAdd, ne_eq, not_false_eq_true, reduceCtorEq, beq_true, beq_false, BEq.rfl, Bool.not_true, Bool.not_false, decide_true, decide_false, exists_prop]
            refine ⟨fun h e => by rw [e]; simp only [go_sem, Int.natCast_nonneg, Nat.reduceEqDiff, Nat.reduceAdd, Nat.reduceSub, Nat.reduceLT, Nat.reduceMul, Nat.reduceBEq, Nat.reduceLeDiff, ↓reduceIte, Int.toNat_natCast, Int.reduceToNat, Int.toNat_zero, Int.toNat_one, not_true_eq_false, false_or, or_self, Nat.reduceGT, Option.isSome_some, Bool.and_self, Nat.zero_add, Nat.mul_one, List.length_map, List.take_length, Int.cast_ofNat_Int, Int.reduceLE, Int.reduceLT, Int.reduceGE, Int.reduceGT, Int.reduceEq, Int.reduceNe, Int.le_refl, Nat.le_refl, Nat.reduceAdd, ne_eq, not_false_eq_true, reduceCtorEq, beq_true, beq_false, BEq.rfl, Bool.not_true, Bool.not_false, decide_true, decide_false, exists_prop], ?_⟩
            refine callX_by (objectsH_calls hblkZ (by rw [show (spOf G2).o.length = G2.length from addrsF_len 0 G2]; omega)) ?_
            rintro r hp4 ⟨⟨h81, rfl⟩, rfl⟩
            simp only [go_sem, Int.natCast_nonneg, Nat.reduceEqDiff, Nat.reduceAdd, Nat.reduceSub, Nat.reduceLT, Nat.reduceMul, Nat.reduceBEq, Nat.reduceLeDiff, ↓reduceIte, Int.toNat_natCast, Int.reduceToNat, Int.toNat_zero, Int.toNat_one, not_true_eq_false, false_or, or_self, Nat.reduceGT, Option.isSome_some, Bool.and_self, Nat.zero_add, Nat.mul_one, List.length_map, List.take_length, Int.cast_ofNat_Int, Int.reduceLE, Int.reduceLT, Int.reduceGE, Int.reduceGT, Int.reduceEq, Int.reduceNe, Int.le_refl, Nat.le_refl, Nat.reduceAdd, ne_eq, not_false_eq_true, reduceCtorEq, beq_true, beq_false, BEq.rfl, Bool.not_true, Bool.not_false, decide_true, decide_false, exists_prop]
            refine callX_by (addresses_calls size ho2 hm2 (by omega) _) ?_
            rintro r hp4 ⟨⟨h83, rfl⟩, rfl⟩
            simp only [go_sem, Int.natCast_nonneg, Nat.reduceEqDiff, Nat.reduceAdd, Nat.reduceSub, Nat.reduceLT, Nat.reduceMul, Nat.reduceBEq, Nat.reduceLeDiff, ↓reduceIte, Int.toNat_natCast, Int.reduceToNat, Int.toNat_zero, Int.toNat_one, not_true_eq_false, false_or, or_self, Nat.reduceGT, Option.isSome_some, Bool.and_self, Nat.zero_add, Nat.mul_one, List.length_map, List.take_length, Int.cast_ofNat_Int, Int.reduceLE, Int.reduceLT, Int.reduceGE, Int.reduceGT, Int.reduceEq, Int.reduceNe, Int.le_refl, Nat.le_refl, Nat.reduceAdd, ne_eq, not_false_eq_true, reduceCtorEq, beq_true, beq_false, BEq.rfl, Bool.not_true, Bool.not_false, decide_true, decide_false, exists_prop]
            refine callX_by (ints_calls h81 h83 (addrsF 0 G2) (addrsF 0 G2) _) ?_
            rintro r hp4 ⟨rfl, rfl⟩
            have hie : sameL (fun x y : Int => decide (x = y)) (addrsF 0 G2) (addrsF 0 G2) = true := (ints_iff _ _).2 rfl
            simp only [go_sem, Int.natCast_nonneg, Nat.reduceEqDiff, Nat.reduceAdd, Nat.reduceSub, Nat.reduceLT, Nat.reduceMul, Nat.reduceBEq, Nat.reduceLeDiff, ↓reduceIte, Int.toNat_natCast, Int.reduceToNat, Int.toNat_zero, Int.toNat_one, not_true_eq_false, false_or, or_self, Nat.reduceGT, Option.isSome_some, Bool.and_self, Nat.zero_add, Nat.mul_one, List.length_map, List.take_length, Int.cast_ofNat_Int, Int.reduceLE, Int.reduceLT, Int.reduceGE, Int.reduceGT, Int.reduceEq, Int.reduceNe, Int.le_refl, Nat.le_refl, Nat.reduceAdd, ne_eq, not_false_eq_true, reduceCtorEq, beq_true, beq_false, BEq.rfl, Bool.not_true, Bool.not_false, decide_true, decide_false, exists_prop, hie, hwu]
            refine ⟨⟨k + 1, hb2, c2, s2, o2, ho2, G2, l2⟩, by simp only; omega, ⟨by simp only; omega, ⟨hok', hm2⟩, hbn2, nb72⟩, le_mkSl rfl ?_ ?_⟩
            · simp only [go_sem, Int.natCast_nonneg, Nat.reduceEqDiff, Nat.reduceAdd, Nat.reduceSub, Nat.reduceLT, Nat.reduceMul, Nat.reduceBEq, Nat.reduceLeDiff, ↓reduceIte, Int.toNat_natCast, Int.reduceToNat, Int.toNat_zero, Int.toNat_one, not_true_eq_false, false_or, or_self, Nat.reduceGT, Option.isSome_some, Bool.and_self, Nat.zero_add, Nat.mul_one, List.length_map, List.take_length, Int.cast_ofNat_Int, Int.reduceLE, Int.reduceLT, Int.reduceGE, Int.reduceGT, Int.reduceEq, Int.reduceNe, Int.le_refl, Nat.le_refl, Nat.reduceAdd, ne_eq, not_false_eq_true, reduceCtorEq, beq_true, beq_false, BEq.rfl, Bool.not_true, Bool.not_false, decide_true, decide_false, exists_prop]
              refine ⟨fun i x hi => ?_, fun i x hi => ?_, ?_, fun x hi => ?_⟩
              · simp only [HHp, Hp.setSp, Hp.setBlk, hX9, objsAV] at hi ⊢
                by_cases e1 : i = b7
                · subst e1; simpa [Ne.symm nb72] using hi
                · by_cases e2 : i = hb2
                  · subst e2; simpa [nb72] using hi
                  · simp only [if_neg e1, if_neg e2] at hi ⊢
                    by_cases e3 : i = b9
                    · subst e3; rw [hb9n] at hi; cases hi
                    · simpa [e3] using hi
              · exact hXmp ▸ hi
              · exact List.Sublist.refl _
              · exact hXgl ▸ hi
            · simp [go_sem, hptrAV]
          · simp only [HHp, go_sem, Int.natCast_nonneg, Nat.reduceEqDiff, Nat.reduceAdd, Nat.reduceSub, Nat.reduceLT, Nat.reduceMul, Nat.reduceBEq, Nat.reduceLeDiff, ↓reduceIte, Int.toNat_natCast, Int.reduceToNat, Int.toNat_zero, Int.toNat_one, not_true_eq_false, false_or, or_self, Nat.reduceGT, Option.isSome_some, Bool.and_self, Nat.zero_add, Nat.mul_one, List.length_map, List.take_length, Int.cast_ofNat_Int, Int.reduceLE, Int.reduceLT, Int.reduceGE, Int.reduceGT, Int.reduceEq, Int.reduceNe, Int.le_refl, Nat.le_refl, Nat.reduceAdd, ne_eq, not_false_eq_true, reduceCtorEq, beq_true, beq_false, BEq.rfl, Bool.not_true, Bool.not_false, decide_true, decide_false, exists_prop, Ne.symm nb7, n79, Ne.symm n79]
            refine callX_by (do2_calls (l2 := hp.sp) hok hY ho' hm x hwx) ?_
            rintro r hp3 ⟨ho2, l2, c2, s2, o2, rfl, hm2, rfl⟩
            generalize stepG size G x = G2 at *
            simp only [go_sem, Int.natCast_nonneg, Nat.reduceEqDiff, Nat.reduceAdd, Nat.reduceSub, Nat.reduceLT, Nat.reduceMul, Nat.reduceBEq, Nat.reduceLeDiff, ↓reduceIte, Int.toNat_natCast, Int.reduceToNat, Int.toNat_zero, Int.toNat_one, not_true_eq_false, false_or, or_self, Nat.reduceGT, Option.isSome_some, Bool.and_self, Nat.zero_add, Nat.mul_one, List.length_map, List.take_length, Int.cast_ofNat_Int, Int.reduceLE, Int.reduceLT, Int.reduceGE, Int.reduceGT, Int.reduceEq, Int.reduceNe, Int.le_refl, Nat.le_refl, Nat.reduceAdd, ne_eq, not_false_eq_true, reduceCtorEq, beq_true, beq_false, BEq.rfl, Bool.not_true, Bool.not_false, decide_true, decide_false, exists_prop, modelAV, modelC, objsAV, HHp, hX9, nb7, Ne.symm nb7, n79, Ne.symm n79]
            refine draw_by (mu := [7, 9, 11]) (fun h => h.blk b7 = some (31, [.v (.int .i64 size), .lst 3 ho2 (l2.map RObj.av)])) (.take 0 (.take 1 (.take 2 (.take 3 (.take 5 (.br 4 (.br 6 (.take 7 (.take 8 (.take 9 (.take 10 (.take 12 (.br 11 (.br 13 (.br 14 (.take 15 (.take 16 (.done))) (.stop)) (.stop)) (.stop))))))) (.stop)) (.stop))))))) (by decide +kernel) (by simp only [go_sem, Int.natCast_nonneg, Nat.reduceEqDiff, Nat.reduceAdd, Nat.reduceSub, Nat.reduceLT, Nat.reduceMul, Nat.reduceBEq, Nat.reduceLeDiff, ↓reduceIte, Int.toNat_natCast, Int.reduceToNat, Int.toNat_zero, Int.toNat_one, not_true_eq_false, false_or, or_self, Nat.reduceGT, Option.isSome_some, Bool.and_self, Nat.zero_add, Nat.mul_one, List.length_map, List.take_length, Int.cast_ofNat_Int, Int.reduceLE, Int.reduceLT, Int.reduceGE, Int.reduceGT, Int.reduceEq, Int.reduceNe, Int.le_refl, Nat.le_refl, Nat.reduceAdd, ne_eq, not_false_eq_true, reduceCtorEq, beq_true, beq_false, BEq.rfl, Bool.not_true, Bool.not_false, decide_true, decide_false, exists_prop]) (by decide +kernel) (by decide +kernel) ?_
            simp only [go_sem, Int.natCast_nonneg, Nat.reduceEqDiff, Nat.reduceAdd, Nat.reduceSub, Nat.reduceLT, Nat.reduceMul, Nat.reduceBEq, Nat.reduceLeDiff, ↓reduceIte, Int.toNat_natCast, Int.reduceToNat, Int.toNat_zero, Int.toNat_one, not_true_eq_false, false_or, or_self, Nat.reduceGT, Option.isSome_some, Bool.and_self, Nat.zero_add, Nat.mul_one, List.length_map, List.take_length, Int.cast_ofNat_Int, Int.reduceLE, Int.reduceLT, Int.reduceGE, Int.reduceGT, Int.reduceEq, Int.reduceNe, Int.le_refl, Nat.le_refl, Nat.reduceAdd, ne_eq, not_false_eq_true, reduceCtorEq, beq_true, beq_false, BEq.rfl, Bool.not_true, Bool.not_false, decide_true, decide_false, exists_prop]
            refine ⟨fun h e => by rw [e]; simp only [go_sem, Int.natCast_nonneg, Nat.reduceEqDiff, Nat.reduceAdd, Nat.reduceSub, Nat.reduceLT, Nat.reduceMul, Nat.reduceBEq, Nat.reduceLeDiff, ↓reduceIte, Int.toNat_natCast, Int.reduceToNat, Int.toNat_zero, Int.toNat_one, not_true_eq_false, false_or, or_self, Nat.reduceGT, Option.isSome_some, Bool.and_self, Nat.zero_add, Nat.mul_one, List.length_map, List.take_length, Int.cast_ofNat_Int, Int.reduceLE, Int.reduceLT, Int.reduceGE, Int.reduceGT, Int.reduceEq, Int.reduceNe, Int.le_refl, Nat.le_refl, Nat.reduceAdd, ne_eq, not_false_eq_true, reduceCtorEq, beq_true, beq_false, BEq.rfl, Bool.not_true, Bool.not_false, decide_true, decide_false, exists_prop], ?_⟩
            have hN2 := hok'.n
            have hGl2 := len_endO G2
            have hc12 : (spOf G2).c.length = endO G2 := cellsO_len G2
            have hblkZ : (((X9.setBlk hb 105 (HeapV size c2 s2 o2 (spOf G2))).setSp (spE c2 s2 o2 hp.sp)).setBlk b7 31 [.v (.int .i64 size), .lst 3 ho2 (l2.map RObj.av)]).blk hb = some (105, HeapV size c2 s2 o2 (spOf G2)) := by simp [Hp.setBlk, Hp.setSp, nb7]
            refine callX_by (usedH_calls hblkZ) ?_
            rintro r hp4 ⟨rfl, rfl⟩
            simp only [go_sem, Int.natCast_nonneg, Nat.reduceEqDiff, Nat.reduceAdd, Nat.reduceSub, Nat.reduceLT, Nat.reduceMul, Nat.reduceBEq, Nat.reduceLeDiff, ↓reduceIte, Int.toNat_natCast, Int.reduceToNat, Int.toNat_zero, Int.toNat_one, not_true_eq_false, false_or, or_self, Nat.reduceGT, Option.isSome_some, Bool.and_self, Nat.zero_add, Nat.mul_one, List.length_map, List.take_length, Int.cast_ofNat_Int, Int.reduceLE, Int.reduceLT, Int.reduceGE, Int.reduceGT, Int.reduceEq, Int.reduceNe, Int.le_refl, Nat.le_refl, Nat.reduceAdd, ne_eq, not_false_eq_true, reduceCtorEq, beq_true, beq_false, BEq.rfl, Bool.not_true, Bool.not_false, decide_true, decide_false, exists_prop, iv, hc12]
            refine callX_by (used_calls size ho2 hm2 (by omega) _) ?_
            rintro r hp4 ⟨rfl, rfl⟩
            simp only [go_sem, Int.natCast_nonneg, Nat.reduceEqDiff, Nat.reduceAdd, Nat.reduceSub, Nat.reduceLT, Nat.reduceMul, Nat.reduceBEq, Nat.reduceLeDiff, ↓reduceIte, Int.toNat_natCast, Int.reduceToNat, Int.toNat_zero, Int.toNat_one, not_true_eq_false, false_or, or_self, Nat.reduceGT, Option.isSome_some, Bool.and_self, Nat.zero_add, Nat.mul_one, List.length_map, List.take_length, Int.cast_ofNat_Int, Int.reduceLE, Int.reduceLT, Int.reduceGE, Int.reduceGT, Int.reduceEq, Int.reduceNe, Int.le_refl, Nat.le_refl, Nat.reduceAdd, ne_eq, not_false_eq_true, reduceCtorEq, beq_true, beq_false, BEq.rfl, Bool.not_true, Bool.not_false, decide_true, decide_false, exists_prop]
            refine ⟨fun h e => by rw [e]; simp only [go_sem, Int.natCast_nonneg, Nat.reduceEqDiff, Nat.reduceAdd, Nat.reduceSub, Nat.reduceLT, Nat.reduceMul, Nat.reduceBEq, Nat.reduceLeDiff, ↓reduceIte, Int.toNat_natCast, Int.reduceToNat, Int.toNat_zero, Int.toNat_one, not_true_eq_false, false_or, or_self, Nat.reduceGT, Option.isSome_some, Bool.and_self, Nat.zero_add, Nat.mul_one, List.length_map, List.take_length, Int.cast_ofNat_Int, Int.reduceLE, Int.reduceLT, Int.reduceGE, Int.reduceGT, Int.reduceEq, Int.reduceNe, Int.le_refl, Nat.le_refl, Nat.reduceAdd, ne_eq, not_false_eq_true, reduceCtorEq, beq_true, beq_false, BEq.rfl, Bool.not_true, Bool.not_false, decide_true, decide_false, exists_prop], ?_⟩
            refine callX_by (objectsH_calls hblkZ (by rw [show (spOf G2).o.length = G2.length from addrsF_len 0 G2]; omega)) ?_
            rintro r hp4 ⟨⟨h81, rfl⟩, rfl⟩
            simp only [go_sem, Int.natCast_nonneg, Nat.reduceEqDiff, Nat.reduceAdd, Nat.reduceSub, Nat.reduceLT, Nat.reduceMul, Nat.reduceBEq, Nat.reduceLeDiff, ↓reduceIte, Int.toNat_natCast, Int.reduceToNat, Int.toNat_zero, Int.toNat_one, not_true_eq_false, false_or, or_self, Nat.reduceGT, Option.isSome_some, Bool.and_self, Nat.zero_add, Nat.mul_one, List.length_map, List.take_length, Int.cast_ofNat_Int, Int.reduceLE, Int.reduceLT, Int.reduceGE, Int.reduceGT, Int.reduceEq, Int.reduceNe, Int.le_refl, Nat.le_refl, Nat.reduceAdd, ne_eq, not_false_eq_true, reduceCtorEq, beq_true, beq_false, BEq.rfl, Bool.not_true, Bool.not_false, decide_true, decide_false, exists_prop]
            refine callX_by (addresses_calls size ho2 hm2 (by omega) _) ?_
            rintro r hp4 ⟨⟨h83, rfl⟩, rfl⟩
            simp only [go_sem, Int.natCast_nonneg, Nat.reduceEqDiff, Nat.reduceAdd, Nat.reduceSub, Nat.reduceLT, Nat.reduceMul, Nat.reduceBEq, Nat.reduceLeDiff, ↓reduceIte, Int.toNat_natCast, Int.reduceToNat, Int.toNat_zero, Int.toNat_one, not_true_eq_false, false_or, or_self, Nat.reduceGT, Option.isSome_some, Bool.and_self, Nat.zero_add, Nat.mul_one, List.length_map, List.take_length, Int.cast_ofNat_Int, Int.reduceLE, Int.reduceLT, Int.reduceGE, Int.reduceGT, Int.reduceEq, Int.reduceNe, Int.le_refl, Nat.le_refl, Nat.reduceAdd, ne_eq, not_false_eq_true, reduceCtorEq, beq_true, beq_false, BEq.rfl, Bool.not_true, Bool.not_false, decide_true, decide_false, exists_prop]
            refine callX_by (ints_calls h81 h83 (addrsF 0 G2) (addrsF 0 G2) _) ?_
            rintro r hp4 ⟨rfl, rfl⟩
            have hie : sameL (fun x y : Int => decide (x = y)) (addrsF 0 G2) (addrsF 0 G2) = true := (ints_iff _ _).2 rfl
            simp only [go_sem, Int.natCast_nonneg, Nat.reduceEqDiff, Nat.reduceAdd, Nat.reduceSub, Nat.reduceLT, Nat.reduceMul, Nat.reduceBEq, Nat.reduceLeDiff, ↓reduceIte, Int.toNat_natCast, Int.reduceToNat, Int.toNat_zero, Int.toNat_one, not_true_eq_false, false_or, or_self, Nat.reduceGT, Option.isSome_some, Bool.and_self, Nat.zero_add, Nat.mul_one, List.length_map, List.take_length, Int.cast_ofNat_Int, Int.reduceLE, Int.reduceLT, Int.reduceGE, Int.reduceGT, Int.reduceEq, Int.reduceNe, Int.le_refl, Nat.le_refl, Nat.reduceAdd, ne_eq, not_false_eq_true, reduceCtorEq, beq_true, beq_false, BEq.rfl, Bool.not_true, Bool.not_false, decide_true, decide_false, exists_prop, hie, hwu]
            refine ⟨⟨k + 1, hb, c2, s2, o2, ho2, G2, l2⟩, by simp only; omega, ⟨by simp only; omega, ⟨hok', hm2⟩, hbn, nb7⟩, le_mkSl rfl ?_ ?_⟩
            · simp only [go_sem, Int.natCast_nonneg, Nat.reduceEqDiff, Nat.reduceAdd, Nat.reduceSub, Nat.reduceLT, Nat.reduceMul, Nat.reduceBEq, Nat.reduceLeDiff, ↓reduceIte, Int.toNat_natCast, Int.reduceToNat, Int.toNat_zero, Int.toNat_one, not_true_eq_false, false_or, or_self, Nat.reduceGT, Option.isSome_some, Bool.and_self, Nat.zero_add, Nat.mul_one, List.length_map, List.take_length, Int.cast_ofNat_Int, Int.reduceLE, Int.reduceLT, Int.reduceGE, Int.reduceGT, Int.reduceEq, Int.reduceNe, Int.le_refl, Nat.le_refl, Nat.reduceAdd, ne_eq, not_false_eq_true, reduceCtorEq, beq_true, beq_false, BEq.rfl, Bool.not_true, Bool.not_false, decide_true, decide_false, exists_prop]
              refine ⟨fun i x hi => ?_, fun i x hi => ?_, ?_, fun x hi => ?_⟩
              · simp only [HHp, Hp.setSp, Hp.setBlk, hX9, objsAV] at hi ⊢
                by_cases e1 : i = b7
                · subst e1; simpa [Ne.symm nb7] using hi
                · by_cases e2 : i = hb
                  · subst e2; simpa [nb7] using hi
                  · simp only [if_neg e1, if_neg e2] at hi ⊢
                    by_cases e3 : i = b9
                    · subst e3; rw [hb9n] at hi; cases hi
                    · simpa [e3] using hi
              · exact hXmp ▸ hi
              · exact List.Sublist.refl _
              · exact hXgl ▸ hi
            · simp [go_sem, hptrAV]
      · refine callX_by (read_calls (hb := hb) (G := G) (size := size) (hc := c) (hs := s) (ho := o) (hhp_blk ..) hok) ?_
        rintro r hp3 ⟨⟨h88, l3, rfl, hm3⟩, rfl⟩
        simp only [go_sem, Int.natCast_nonneg, Nat.reduceEqDiff, Nat.reduceAdd, Nat.reduceSub, Nat.reduceLT, Nat.reduceMul, Nat.reduceBEq, Nat.reduceLeDiff, ↓reduceIte, Int.toNat_natCast, Int.reduceToNat, Int.toNat_zero, Int.toNat_one, not_true_eq_false, false_or, or_self, Nat.reduceGT, Option.isSome_some, Bool.and_self, Nat.zero_add, Nat.mul_one, List.length_map, List.take_length, Int.cast_ofNat_Int, Int.reduceLE, Int.reduceLT, Int.reduceGE, Int.reduceGT, Int.reduceEq, Int.reduceNe, Int.le_refl, Nat.le_refl, Nat.reduceAdd, ne_eq, not_false_eq_true, reduceCtorEq, beq_true, beq_false, BEq.rfl, Bool.not_true, Bool.not_false, decide_true, decide_false, exists_prop, modelAV, modelC, objsAV]
        intro b11 hb11
        have n11 : b11 ≠ hb := by rintro rfl; have := hb11.1; rw [hhp_blk] at this; cases this
        have n117 : b11 ≠ b7 := by rintro rfl; have := hb11.1; simp [HHp, Hp.setBlk, Hp.setSp, Ne.symm nb7] at this
        have hb11n : hp.blk b11 = none := by have := hb11.1; simpa [HHp, Hp.setBlk, Hp.setSp, n11, n117] using this
        simp only [go_sem, Int.natCast_nonneg, Nat.reduceEqDiff, Nat.reduceAdd, Nat.reduceSub, Nat.reduceLT, Nat.reduceMul, Nat.reduceBEq, Nat.reduceLeDiff, ↓reduceIte, Int.toNat_natCast, Int.reduceToNat, Int.toNat_zero, Int.toNat_one, not_true_eq_false, false_or, or_self, Nat.reduceGT, Option.isSome_some, Bool.and_self, Nat.zero_add, Nat.mul_one, List.length_map, List.take_length, Int.cast_ofNat_Int, Int.reduceLE, Int.reduceLT, Int.reduceGE, Int.reduceGT, Int.reduceEq, Int.reduceNe, Int.le_refl, Nat.le_refl, Nat.reduceAdd, ne_eq, not_false_eq_true, reduceCtorEq, beq_true, beq_false, BEq.rfl, Bool.not_true, Bool.not_false, decide_true, decide_false, exists_prop, HHp, n11, Ne.symm n11, n117, Ne.symm n117, nb7, Ne.symm nb7]
        refine callX_by (equal_calls size size h88 ho' l3 l' _) ?_
        rintro r hp4 ⟨rfl, rfl⟩
        have heq : sameL eqR l3 l' = true := (equal_iff hm3 hm).2 rfl
        simp only [go_sem, Int.natCast_nonneg, Nat.reduceEqDiff, Nat.reduceAdd, Nat.reduceSub, Nat.reduceLT, Nat.reduceMul, Nat.reduceBEq, Nat.reduceLeDiff, ↓reduceIte, Int.toNat_natCast, Int.reduceToNat, Int.toNat_zero, Int.toNat_one, not_true_eq_false, false_or, or_self, Nat.reduceGT, Option.isSome_some, Bool.and_self, Nat.zero_add, Nat.mul_one, List.length_map, List.take_length, Int.cast_ofNat_Int, Int.reduceLE, Int.reduceLT, Int.reduceGE, Int.reduceGT, Int.reduceEq, Int.reduceNe, Int.le_refl, Nat.le_refl, Nat.reduceAdd, ne_eq, not_false_eq_true, reduceCtorEq, beq_true, beq_false, BEq.rfl, Bool.not_true, Bool.not_false, decide_true, decide_false, exists_prop, heq]
        refine callX_by (awake_calls _) ?_
        rintro r hp4 ⟨rfl, rfl⟩
        simp only [go_sem, Int.natCast_nonneg, Nat.reduceEqDiff, Nat.reduceAdd, Nat.reduceSub, Nat.reduceLT, Nat.reduceMul, Nat.reduceBEq, Nat.reduceLeDiff, ↓reduceIte, Int.toNat_natCast, Int.reduceToNat, Int.toNat_zero, Int.toNat_one, not_true_eq_false, false_or, or_self, Nat.reduceGT, Option.isSome_some, Bool.and_self, Nat.zero_add, Nat.mul_one, List.length_map, List.take_length, Int.cast_ofNat_Int, Int.reduceLE, Int.reduceLT, Int.reduceGE, Int.reduceGT, Int.reduceEq, Int.reduceNe, Int.le_refl, Nat.le_refl, Nat.reduceAdd, ne_eq, not_false_eq_true, reduceCtorEq, beq_true, beq_false, BEq.rfl, Bool.not_true, Bool.not_false, decide_true, decide_false, exists_prop]
        refine ret_le (hp' := hp) ⟨fun i x hi => ?_, fun _ _ h => h, ((List.sublist_cons_self _ _).trans (List.sublist_cons_self _ _)).trans (List.sublist_cons_self _ _), fun _ h => h⟩ ⟨rfl, rfl⟩
        have e7 : i ≠ b7 := by rintro rfl; rw [hb7n] at hi; cases hi
        have eh : i ≠ hb := by rintro rfl; rw [hbn] at hi; cases hi
        have e11 : i ≠ b11 := by rintro rfl; rw [hb11n] at hi; cases hi
        simpa [Hp.setBlk, Hp.setSp, e7, eh, e11] using hi
end Go.Proofs.Ytfdlfcafcjhpmaa
/- From a row's reading to calls on a heap. -/
set_option linter.unusedSimpArgs false
set_option linter.unusedVariables false
set_option maxRecDepth 20000
namespace Go.Proofs.Ytfdlfcafcjhpmaa
open Go.AL
section
variable {H : Type} {enc : TypeId × Value → H} {w : World} {base : Nat} {sp : Nat → Bool} {held : Bool}

theorem reads_int {t : TypeId} {k : IntKind} (ht : Try.prog.underlying t = some (.int k)) {fuel : Nat} {cs : List Value} {x : DataW H × List MemPlace} (h : DataW.trod enc Try.prog w base sp held fuel t cs = some x) : ∃ n, cs = [.int k n] := by
  cases fuel with
  | zero => simp [DataW.trod] at h
  | succ fuel =>
    unfold DataW.trod at h
    rw [ht] at h
    split at h <;> simp only [reduceCtorEq, Option.some.injEq, TypeDesc.int.injEq] at *
    rename_i k1 k2 n he
    subst he
    split at h
    · rename_i hk; exact ⟨n, by rw [hk.1]⟩
    · cases h
theorem reads_bool {t : TypeId} (ht : Try.prog.underlying t = some .bool) {fuel : Nat} {cs : List Value} {x : DataW H × List MemPlace} (h : DataW.trod enc Try.prog w base sp held fuel t cs = some x) : ∃ b, cs = [.bool b] := by
  cases fuel with
  | zero => simp [DataW.trod] at h
  | succ fuel =>
    unfold DataW.trod at h
    rw [ht] at h
    split at h <;> simp only [reduceCtorEq, Option.some.injEq] at *
    exact ⟨_, rfl⟩

theorem trod_struct {P : Program} {t : TypeId} {fs : Array Field} (ht : P.underlying t = some (.struct fs)) (fuel : Nat) (cs : List Value) :
    DataW.trod enc P w base sp held (fuel + 1) t cs = if cs.length = P.cellsOf t then (fs.toList.mapM fun f => DataW.trod enc P w base sp held fuel f.type ((cs.drop f.offset).take (P.cellsOf f.type))).map fun xs => (.agg (xs.map (·.1)), xs.flatMap (·.2)) else none := by
  conv => lhs; unfold DataW.trod
  rw [ht]
theorem light_struct {P : Program} {t : TypeId} {fs : Array Field} (ht : P.underlying t = some (.struct fs)) {parts : List (DataW H)} (h : Light P t (.agg parts)) : ∀ n ∈ DataW.weightsEach P (fs.toList.map (·.type)) parts, n ≤ reachBytes := by
  intro n hn
  refine h n ?_
  rw [DataW.weights, ht]
  exact hn

theorem reads_word : Reads Try.prog enc w base sp held 65 WordG.cs (fun _ => True) := by
  intro fuel cs x h
  cases fuel with
  | zero => simp [DataW.trod] at h
  | succ fuel =>
    rw [trod_struct Try.underlying65] at h
    split at h
    · rename_i hl
      have h1 : Try.prog.cellsOf 3 = 1 := by kernel_rfl
      have h2 : Try.prog.cellsOf 4 = 1 := by kernel_rfl
      have h3 : Try.prog.cellsOf 65 = 2 := by kernel_rfl
      rw [h3] at hl
      match cs, hl with
      | [a, b], _ =>
      simp only [List.mapM_cons, List.mapM_nil, h1, h2, List.drop_zero, List.drop_succ_cons, List.take_succ_cons, List.take_zero] at h
      cases e1 : DataW.trod enc Try.prog w base sp held fuel 4 [a] with
      | none => rw [e1] at h; simp at h
      | some x1 =>
      cases e2 : DataW.trod enc Try.prog w base sp held fuel 3 [b] with
      | none => rw [e1, e2] at h; simp at h
      | some x2 =>
      obtain ⟨n, hn⟩ := reads_bool Try.underlying4 e1
      obtain ⟨c, hc⟩ := reads_int Try.underlying3 e2
      simp only [List.cons.injEq, and_true] at hn hc
      subst hn; subst hc
      exact ⟨⟨n, c⟩, rfl, ⟨trivial, trivial, trivial⟩, fun _ => trivial⟩
    · cases h

theorem ok_agg {m : Mem} {cs : List AV} (h : AV.oks m cs) : (AV.agg cs).ok m := h

theorem reads_words {fuel : Nat} {cs : List Value} {x : DataW H × List MemPlace} (h : DataW.trod enc Try.prog w base sp held fuel 32 cs = some x) :
    ∃ hd l, cs = [hd] ∧ (wordsAV hd l).ok (memOf w) ∧ (Light Try.prog 32 x.1 → l.length * 16 ≤ reachBytes) := by
  have h4 : Try.prog.bytesOf 65 = 16 := by kernel_rfl
  obtain ⟨hd, l, h1, h2, h3⟩ := reads_slice (sz := 2) (el := WordG.av) Try.underlying32 (by kernel_rfl) (by decide) reads_word (fun g _ => rfl) (fun g h => ok_agg h) _ _ _ h
  rw [h4] at h3
  exact ⟨hd, l, h1, h2, fun hL => (h3 hL).1⟩

def OpG.small (o : OpG) : Prop := o.ws.length * 16 ≤ reachBytes
theorem reads_op : Reads Try.prog enc w base sp held 34 OpG.cs OpG.small := by
  intro fuel cs x h
  cases fuel with
  | zero => simp [DataW.trod] at h
  | succ fuel =>
    rw [trod_struct Try.underlying34] at h
    split at h
    · rename_i hl
      have h1 : Try.prog.cellsOf 3 = 1 := by kernel_rfl
      have h2 : Try.prog.cellsOf 32 = 1 := by kernel_rfl
      have h3 : Try.prog.cellsOf 34 = 4 := by kernel_rfl
      rw [h3] at hl
      match cs, hl with
      | [a, b, c, d], _ =>
      simp only [List.mapM_cons, List.mapM_nil, h1, h2, List.drop_zero, List.drop_succ_cons, List.take_succ_cons, List.take_zero] at h
      cases e1 : DataW.trod enc Try.prog w base sp held fuel 3 [a] with
      | none => rw [e1] at h; simp at h
      | some x1 =>
      cases e2 : DataW.trod enc Try.prog w base sp held fuel 3 [b] with
      | none => rw [e1, e2] at h; simp at h
      | some x2 =>
      cases e3 : DataW.trod enc Try.prog w base sp held fuel 3 [c] with
      | none => rw [e1, e2, e3] at h; simp at h
      | some x3 =>
      cases e4 : DataW.trod enc Try.prog w base sp held fuel 32 [d] with
      | none => rw [e1, e2, e3, e4] at h; simp at h
      | some x4 =>
      obtain ⟨n1, hn1⟩ := reads_int Try.underlying3 e1
      obtain ⟨n2, hn2⟩ := reads_int Try.underlying3 e2
      obtain ⟨n3, hn3⟩ := reads_int Try.underlying3 e3
      obtain ⟨hd, gs, hc, hok, hW⟩ := reads_words e4
      simp only [List.cons.injEq, and_true] at hn1 hn2 hn3 hc
      subst hn1; subst hn2; subst hn3; subst hc
      refine ⟨⟨n1, n2, n3, d, gs⟩, rfl, ⟨trivial, trivial, trivial, hok, trivial⟩, fun hL => ?_⟩
      rw [e1, e2, e3, e4] at h
      simp at h
      subst h
      have hL2 := light_struct Try.underlying34 hL
      exact hW fun m hm => hL2 m (by simp [DataW.weightsEach, hm])
    · cases h

theorem reads_ops {fuel : Nat} {cs : List Value} {x : DataW H × List MemPlace} (h : DataW.trod enc Try.prog w base sp held fuel 22 cs = some x) :
    ∃ hd l, cs = [hd] ∧ (opsAV hd l).ok (memOf w) ∧ (Light Try.prog 22 x.1 → ∀ o ∈ l, o.small) := by
  obtain ⟨hd, l, h1, h2, h3⟩ := reads_slice (sz := 4) (el := OpG.av) Try.underlying22 (by kernel_rfl) (by decide) reads_op (fun g _ => rfl) (fun g h => ok_agg h) _ _ _ h
  exact ⟨hd, l, h1, h2, fun hL => (h3 hL).2⟩
end

def hpE : Hp := ⟨fun _ => none, fun _ => none, [], []⟩
/-- A contract at a row's start: nothing is the call's own, all cells are as they stand. -/
theorem calls_of_row {f : FuncId} {args : List AV} {r : AV} (W : World) (hok : AV.oks (memOf W) args) (h : ACalls Try.prog f args hpE (fun r' hp' => r' = r ∧ hp' = hpE)) :
    Calls Try.prog f (AV.vals args).toArray W fun e W' => e = .returned r.val ∧ Go.RowKit.Below W.heap.size W W' := by
  refine (h.2 ⟨memOf W, W, W.heap.size⟩ W ⟨Lo.self _ _ _ (Nat.le_refl _), memOf W, Mem.le_refl _, ⟨fun b o x hx => hx, fun b T cs hb => by simp [hpE] at hb, fun b es hb => by simp [hpE] at hb, fun e sz hd hi => by simp [hpE] at hi, by simp [hpE], fun g cs hg => by simp [hpE] at hg⟩, hok⟩).mono ?_
  rintro e W' ⟨r', hp', ⟨rfl, _⟩, rfl, hlo, _⟩
  exact ⟨rfl, ⟨hlo.os, hlo.tape, hlo.output, hlo.size, hlo.low⟩⟩
end Go.Proofs.Ytfdlfcafcjhpmaa
