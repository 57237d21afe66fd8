/- Heaps: the law's made. -/
import Derived.Test.YtfdlfcafcjhpmaaCH23
set_option linter.unusedSimpArgs false
set_option linter.unusedVariables false
set_option maxRecDepth 20000
set_option maxHeartbeats 4000000
namespace Go.Proofs.Ytfdlfcafcjhpmaa
open Go.AL

theorem new2_calls (size : Int) (h1 : 0 ≤ size) (h2 : size ≤ 1048576) (hp : Hp) : ACalls Try.prog 13 [iv size] hp
    (fun r hp' => ∃ b, r = .tup [hptrAV b, iv 0] ∧ hp.blk b = none ∧ hp' = HHp hp b size (.slice none 0 0) (.slice none 0 0) (.slice none 0 0) [] hp.sp) := by
  refine (new_calls size hp).mono ?_
  rintro r hp1 (⟨hb, -, -⟩ | ⟨hbad, b, rfl, hfr, rfl⟩)
  · exfalso; have := newBad_iff.1 hb; omega
  · exact ⟨b, rfl, hfr.1, rfl⟩
def MadeR (size : Int) (hp : Hp) (r : AV) (hp' : Hp) : Prop :=
  ∃ b c s o ho' l' G, r = .tup [hptrAV b, modelAV size ho' l', .v (.bool true)] ∧ Okay size G ∧ MR G l' ∧ hp.blk b = none ∧ hp' = HHp hp b size c s o G hp.sp
theorem made_calls (size : Int) (h1 : 0 ≤ size) (h2 : size ≤ 1048576) (h0 : Value) (l : List OpG) (hw : ∀ x ∈ l, x.ws.length ≤ 8796093022000) (hp : Hp) :
    ACalls Try.prog 25 [iv size, opsAV h0 l] hp (MadeR size hp) := by
  refine acalls_fit (callable_of Try.func25 (by decide +kernel)) fun hfit => ?_
  have hl : l.length ≤ maxLen := by have := hfit.2.1; simp only [opsAV, AV.fit, List.length_map] at this; exact this.1
  have hnil := okay_nil h1 h2
  refine acalls_of Try.func25 rfl (by decide +kernel) (awp_sound (mu := [5, 9, 11]) _ _ _ ?_)
  simp only [go_sem, Int.natCast_nonneg, Nat.reduceEqDiff, Nat.reduceAdd, Nat.reduceSub, Nat.reduceLT, Nat.reduceMul, Nat.reduceBEq, Nat.reduceLeDiff, ↓reduceIte, Int.toNat_natCast, Int.reduceToNat, Int.toNat_zero, Int.toNat_one, not_true_eq_false, false_or, or_self, Nat.reduceGT, Option.isSome_some, Bool.and_self, Nat.zero_add, Nat.mul_one, List.length_map, List.take_length, Int.cast_ofNat_Int, Int.reduceLE, Int.reduceLT, Int.reduceGE, Int.reduceGT, Int.reduceEq, Int.reduceNe, Int.le_refl, Nat.le_refl, Nat.reduceAdd, ne_eq, not_false_eq_true, reduceCtorEq, beq_true, beq_false, BEq.rfl, Bool.not_true, Bool.not_false, decide_true, decide_false, exists_prop]
  intro b5 hb5
  refine callX_by (new2_calls size h1 h2 _) ?_
  rintro r hp1 ⟨b, rfl, hbn, rfl⟩
  have n5 : b ≠ b5 := by rintro rfl; simp [Hp.setBlk] at hbn
  have hbn0 : hp.blk b = none := by simpa [Hp.setBlk, n5] using hbn
  simp only [go_sem, Int.natCast_nonneg, Nat.reduceEqDiff, Nat.reduceAdd, Nat.reduceSub, Nat.reduceLT, Nat.reduceMul, Nat.reduceBEq, Nat.reduceLeDiff, ↓reduceIte, Int.toNat_natCast, Int.reduceToNat, Int.toNat_zero, Int.toNat_one, not_true_eq_false, false_or, or_self, Nat.reduceGT, Option.isSome_some, Bool.and_self, Nat.zero_add, Nat.mul_one, List.length_map, List.take_length, Int.cast_ofNat_Int, Int.reduceLE, Int.reduceLT, Int.reduceGE, Int.reduceGT, Int.reduceEq, Int.reduceNe, Int.le_refl, Nat.le_refl, Nat.reduceAdd, ne_eq, not_false_eq_true, reduceCtorEq, beq_true, beq_false, BEq.rfl, Bool.not_true, Bool.not_false, decide_true, decide_false, exists_prop]
  rw [show iv size = .v (.int .i64 size) from rfl]
  generalize hZ : HHp _ _ _ _ _ _ _ _ = Z
  simp only [go_sem, Int.natCast_nonneg, Nat.reduceEqDiff, Nat.reduceAdd, Nat.reduceSub, Nat.reduceLT, Nat.reduceMul, Nat.reduceBEq, Nat.reduceLeDiff, ↓reduceIte, Int.toNat_natCast, Int.reduceToNat, Int.toNat_zero, Int.toNat_one, not_true_eq_false, false_or, or_self, Nat.reduceGT, Option.isSome_some, Bool.and_self, Nat.zero_add, Nat.mul_one, List.length_map, List.take_length, Int.cast_ofNat_Int, Int.reduceLE, Int.reduceLT, Int.reduceGE, Int.reduceGT, Int.reduceEq, Int.reduceNe, Int.le_refl, Nat.le_refl, Nat.reduceAdd, ne_eq, not_false_eq_true, reduceCtorEq, beq_true, beq_false, BEq.rfl, Bool.not_true, Bool.not_false, decide_true, decide_false, exists_prop]
  intro b9 hb9
  rw [show iv 0 = .v (.int .i64 0) from rfl]
  simp only [go_sem, Int.natCast_nonneg, Nat.reduceEqDiff, Nat.reduceAdd, Nat.reduceSub, Nat.reduceLT, Nat.reduceMul, Nat.reduceBEq, Nat.reduceLeDiff, ↓reduceIte, Int.toNat_natCast, Int.reduceToNat, Int.toNat_zero, Int.toNat_one, not_true_eq_false, false_or, or_self, Nat.reduceGT, Option.isSome_some, Bool.and_self, Nat.zero_add, Nat.mul_one, List.length_map, List.take_length, Int.cast_ofNat_Int, Int.reduceLE, Int.reduceLT, Int.reduceGE, Int.reduceGT, Int.reduceEq, Int.reduceNe, Int.le_refl, Nat.le_refl, Nat.reduceAdd, ne_eq, not_false_eq_true, reduceCtorEq, beq_true, beq_false, BEq.rfl, Bool.not_true, Bool.not_false, decide_true, decide_false, exists_prop]
  simp only [go_sem, Int.natCast_nonneg, Nat.reduceEqDiff, Nat.reduceAdd, Nat.reduceSub, Nat.reduceLT, Nat.reduceMul, Nat.reduceBEq, Nat.reduceLeDiff, ↓reduceIte, Int.toNat_natCast, Int.reduceToNat, Int.toNat_zero, Int.toNat_one, not_true_eq_false, false_or, or_self, Nat.reduceGT, Option.isSome_some, Bool.and_self, Nat.zero_add, Nat.mul_one, List.length_map, List.take_length, Int.cast_ofNat_Int, Int.reduceLE, Int.reduceLT, Int.reduceGE, Int.reduceGT, Int.reduceEq, Int.reduceNe, Int.le_refl, Nat.le_refl, Nat.reduceAdd, ne_eq, not_false_eq_true, reduceCtorEq, beq_true, beq_false, BEq.rfl, Bool.not_true, Bool.not_false, decide_true, decide_false, exists_prop, hptrAV]
  subst hZ
  simp only [go_sem, Int.natCast_nonneg, Nat.reduceEqDiff, Nat.reduceAdd, Nat.reduceSub, Nat.reduceLT, Nat.reduceMul, Nat.reduceBEq, Nat.reduceLeDiff, ↓reduceIte, Int.toNat_natCast, Int.reduceToNat, Int.toNat_zero, Int.toNat_one, not_true_eq_false, false_or, or_self, Nat.reduceGT, Option.isSome_some, Bool.and_self, Nat.zero_add, Nat.mul_one, List.length_map, List.take_length, Int.cast_ofNat_Int, Int.reduceLE, Int.reduceLT, Int.reduceGE, Int.reduceGT, Int.reduceEq, Int.reduceNe, Int.le_refl, Nat.le_refl, Nat.reduceAdd, ne_eq, not_false_eq_true, reduceCtorEq, beq_true, beq_false, BEq.rfl, Bool.not_true, Bool.not_false, decide_true, decide_false, exists_prop, opsAV]
  have n9 : b ≠ b9 := by rintro rfl; have := hb9.1; rw [hhp_blk] at this; cases this
  have n59 : b5 ≠ b9 := by rintro rfl; have := hb9.1; simp [HHp, Hp.setBlk, Hp.setSp, Ne.symm n5] at this
  have hb9n : hp.blk b9 = none := by have := hb9.1; simpa [HHp, Hp.setBlk, Hp.setSp, Ne.symm n9, Ne.symm n59] using this
  have hb5n : hp.blk b5 = none := hb5.1
  refine castBlk_by b9 31 [.v (.int .i64 size), .v (.slice none 0 0)] [.v (.int .i64 size), .lst 3 (.slice none 0 0) []] (by simp [go_sem]) rfl (fun m _ => ⟨trivial, (Cast.nil 3).2 m trivial, trivial⟩) ?_
  simp only [go_sem, Int.natCast_nonneg, Nat.reduceEqDiff, Nat.reduceAdd, Nat.reduceSub, Nat.reduceLT, Nat.reduceMul, Nat.reduceBEq, Nat.reduceLeDiff, ↓reduceIte, Int.toNat_natCast, Int.reduceToNat, Int.toNat_zero, Int.toNat_one, not_true_eq_false, false_or, or_self, Nat.reduceGT, Option.isSome_some, Bool.and_self, Nat.zero_add, Nat.mul_one, List.length_map, List.take_length, Int.cast_ofNat_Int, Int.reduceLE, Int.reduceLT, Int.reduceGE, Int.reduceGT, Int.reduceEq, Int.reduceNe, Int.le_refl, Nat.le_refl, Nat.reduceAdd, ne_eq, not_false_eq_true, reduceCtorEq, beq_true, beq_false, BEq.rfl, Bool.not_true, Bool.not_false, decide_true, decide_false, exists_prop, Hp.set_set]
  refine aw_loopX 54 (fun x : DoesG => [(5, .v (.pointer (some ⟨b5, 0, none⟩))), (7, hptrAV x.hb), (9, .v (.pointer (some ⟨b9, 0, none⟩))), (27, .lst 4 h0 (l.map OpG.av)), (28, .v (.int .i64 l.length)), (29, .v (.int .i64 x.k))])
    (fun x => HHp ((hp.setBlk b5 31 [.v (.int .i64 0), .v (.slice none 0 0)]).setBlk b9 31 [.v (.int .i64 size), objsAV x.ho x.l]) x.hb size x.c x.s x.o x.G hp.sp) (fun x => x.k ≤ l.length ∧ DoesI size x.G x.l ∧ hp.blk x.hb = none ∧ x.hb ≠ b9 ∧ x.hb ≠ b5) (fun x => l.length - x.k) ⟨0, b, .slice none 0 0, .slice none 0 0, .slice none 0 0, .slice none 0 0, [], []⟩ ⟨Nat.zero_le _, ⟨hnil, rfl⟩, hbn0, n9, n5⟩
    (le_mkSl rfl (by
      simp only [go_sem, Int.natCast_nonneg, Nat.reduceEqDiff, Nat.reduceAdd, Nat.reduceSub, Nat.reduceLT, Nat.reduceMul, Nat.reduceBEq, Nat.reduceLeDiff, ↓reduceIte, Int.toNat_natCast, Int.reduceToNat, Int.toNat_zero, Int.toNat_one, not_true_eq_false, false_or, or_self, Nat.reduceGT, Option.isSome_some, Bool.and_self, Nat.zero_add, Nat.mul_one, List.length_map, List.take_length, Int.cast_ofNat_Int, Int.reduceLE, Int.reduceLT, Int.reduceGE, Int.reduceGT, Int.reduceEq, Int.reduceNe, Int.le_refl, Nat.le_refl, Nat.reduceAdd, ne_eq, not_false_eq_true, reduceCtorEq, beq_true, beq_false, BEq.rfl, Bool.not_true, Bool.not_false, decide_true, decide_false, exists_prop]
      refine ⟨fun i x hi => ?_, fun _ _ h => h, List.Sublist.refl _, fun _ h => h⟩
      by_cases e : i = b9
      · subst e; simpa [HHp, Hp.setBlk, Hp.setSp, Ne.symm n9, objsAV] using hi
      · simpa [HHp, Hp.setBlk, Hp.setSp, e] using hi) (by simp [go_sem, hptrAV])) ?_
  rintro ⟨k, hb, c, s, o, ho', G, l'⟩ ⟨hk, ⟨hok, hm⟩, hbn, nb9, nb5⟩
  simp only at hk hok hm hbn nb9 nb5
  refine awp_sound (mu := [5, 9, 11]) _ _ _ ?_
  simp only [go_sem, Int.natCast_nonneg, Nat.reduceEqDiff, Nat.reduceAdd, Nat.reduceSub, Nat.reduceLT, Nat.reduceMul, Nat.reduceBEq, Nat.reduceLeDiff, ↓reduceIte, Int.toNat_natCast, Int.reduceToNat, Int.toNat_zero, Int.toNat_one, not_true_eq_false, false_or, or_self, Nat.reduceGT, Option.isSome_some, Bool.and_self, Nat.zero_add, Nat.mul_one, List.length_map, List.take_length, Int.cast_ofNat_Int, Int.reduceLE, Int.reduceLT, Int.reduceGE, Int.reduceGT, Int.reduceEq, Int.reduceNe, Int.le_refl, Nat.le_refl, Nat.reduceAdd, ne_eq, not_false_eq_true, reduceCtorEq, beq_true, beq_false, BEq.rfl, Bool.not_true, Bool.not_false, decide_true, decide_false, exists_prop, hptrAV]
  refine brK_mk (fun h1 => ?_) (fun h1 => ?_) <;> simp only [go_sem, Int.natCast_nonneg, Nat.reduceEqDiff, Nat.reduceAdd, Nat.reduceSub, Nat.reduceLT, Nat.reduceMul, Nat.reduceBEq, Nat.reduceLeDiff, ↓reduceIte, Int.toNat_natCast, Int.reduceToNat, Int.toNat_zero, Int.toNat_one, not_true_eq_false, false_or, or_self, Nat.reduceGT, Option.isSome_some, Bool.and_self, Nat.zero_add, Nat.mul_one, List.length_map, List.take_length, Int.cast_ofNat_Int, Int.reduceLE, Int.reduceLT, Int.reduceGE, Int.reduceGT, Int.reduceEq, Int.reduceNe, Int.le_refl, Nat.le_refl, Nat.reduceAdd, ne_eq, not_false_eq_true, reduceCtorEq, beq_true, beq_false, BEq.rfl, Bool.not_true, Bool.not_false, decide_true, decide_false, exists_prop, h1]
  · have hk' : k < l.length := by simpa using h1
    obtain ⟨x, hx⟩ := some_at' l k hk'
    have hwx := hw x (List.mem_of_getElem? hx)
    have hwu := upW k _ hk' hl
    have hok' := step_okay hok x
    simp only [go_sem, Int.natCast_nonneg, Nat.reduceEqDiff, Nat.reduceAdd, Nat.reduceSub, Nat.reduceLT, Nat.reduceMul, Nat.reduceBEq, Nat.reduceLeDiff, ↓reduceIte, Int.toNat_natCast, Int.reduceToNat, Int.toNat_zero, Int.toNat_one, not_true_eq_false, false_or, or_self, Nat.reduceGT, Option.isSome_some, Bool.and_self, Nat.zero_add, Nat.mul_one, List.length_map, List.take_length, Int.cast_ofNat_Int, Int.reduceLE, Int.reduceLT, Int.reduceGE, Int.reduceGT, Int.reduceEq, Int.reduceNe, Int.le_refl, Nat.le_refl, Nat.reduceAdd, ne_eq, not_false_eq_true, reduceCtorEq, beq_true, beq_false, BEq.rfl, Bool.not_true, Bool.not_false, decide_true, decide_false, exists_prop, map_at' OpG.av _ _ _ hx, OpG.av, OpG.cs, iv, wordsAV]
    intro b11 hb11
    have n11 : b11 ≠ hb := by rintro rfl; have := hb11.1; rw [hhp_blk] at this; cases this
    have n911 : b9 ≠ b11 := by rintro rfl; have := hb11.1; simp [HHp, Hp.setBlk, Hp.setSp, Ne.symm nb9] at this
    have n511 : b5 ≠ b11 := by rintro rfl; have := hb11.1; simp [HHp, Hp.setBlk, Hp.setSp, Ne.symm nb5, n59] at this
    have hb11n : hp.blk b11 = none := by have := hb11.1; simpa [HHp, Hp.setBlk, Hp.setSp, n11, Ne.symm n911, Ne.symm n511] using this
    have hY : (HHp ((hp.setBlk b5 31 [.v (.int .i64 0), .v (.slice none 0 0)]).setBlk b9 31 [.v (.int .i64 size), objsAV ho' l']) hb size c s o G hp.sp).le ((HHp ((hp.setBlk b5 31 [.v (.int .i64 0), .v (.slice none 0 0)]).setBlk b9 31 [.v (.int .i64 size), objsAV ho' l']) hb size c s o G hp.sp).setBlk b11 34 [.v (.int .i64 x.d), .v (.int .i64 x.a), .v (.int .i64 x.i), .lst 2 x.h (x.ws.map WordG.av)]) := Hp.le_setBlk _ _ _ _ hb11.1
    refine brK_mk (fun h2 => ?_) (fun h2 => ?_) <;> simp only [go_sem, Int.natCast_nonneg, Nat.reduceEqDiff, Nat.reduceAdd, Nat.reduceSub, Nat.reduceLT, Nat.reduceMul, Nat.reduceBEq, Nat.reduceLeDiff, ↓reduceIte, Int.toNat_natCast, Int.reduceToNat, Int.toNat_zero, Int.toNat_one, not_true_eq_false, false_or, or_self, Nat.reduceGT, Option.isSome_some, Bool.and_self, Nat.zero_add, Nat.mul_one, List.length_map, List.take_length, Int.cast_ofNat_Int, Int.reduceLE, Int.reduceLT, Int.reduceGE, Int.reduceGT, Int.reduceEq, Int.reduceNe, Int.le_refl, Nat.le_refl, Nat.reduceAdd, ne_eq, not_false_eq_true, reduceCtorEq, beq_true, beq_false, BEq.rfl, Bool.not_true, Bool.not_false, decide_true, decide_false, exists_prop, h2]
    · skip
      simp only [HHp, go_sem, Int.natCast_nonneg, Nat.reduceEqDiff, Nat.reduceAdd, Nat.reduceSub, Nat.reduceLT, Nat.reduceMul, Nat.reduceBEq, Nat.reduceLeDiff, ↓reduceIte, Int.toNat_natCast, Int.reduceToNat, Int.toNat_zero, Int.toNat_one, not_true_eq_false, false_or, or_self, Nat.reduceGT, Option.isSome_some, Bool.and_self, Nat.zero_add, Nat.mul_one, List.length_map, List.take_length, Int.cast_ofNat_Int, Int.reduceLE, Int.reduceLT, Int.reduceGE, Int.reduceGT, Int.reduceEq, Int.reduceNe, Int.le_refl, Nat.le_refl, Nat.reduceAdd, ne_eq, not_false_eq_true, reduceCtorEq, beq_true, beq_false, BEq.rfl, Bool.not_true, Bool.not_false, decide_true, decide_false, exists_prop, Ne.symm nb9, nb9, n59, Ne.symm n59, n911, Ne.symm n911]
      refine callX_by (do2_calls (l2 := hp.sp) hok hY ho' hm x hwx) ?_
      rintro r hp3 ⟨ho2, l2, c2, s2, o2, rfl, hm2, rfl⟩
      generalize stepG size G x = G2 at *
      simp only [go_sem, Int.natCast_nonneg, Nat.reduceEqDiff, Nat.reduceAdd, Nat.reduceSub, Nat.reduceLT, Nat.reduceMul, Nat.reduceBEq, Nat.reduceLeDiff, ↓reduceIte, Int.toNat_natCast, Int.reduceToNat, Int.toNat_zero, Int.toNat_one, not_true_eq_false, false_or, or_self, Nat.reduceGT, Option.isSome_some, Bool.and_self, Nat.zero_add, Nat.mul_one, List.length_map, List.take_length, Int.cast_ofNat_Int, Int.reduceLE, Int.reduceLT, Int.reduceGE, Int.reduceGT, Int.reduceEq, Int.reduceNe, Int.le_refl, Nat.le_refl, Nat.reduceAdd, ne_eq, not_false_eq_true, reduceCtorEq, beq_true, beq_false, BEq.rfl, Bool.not_true, Bool.not_false, decide_true, decide_false, exists_prop, modelAV, modelC, objsAV, HHp, Ne.symm nb9, nb9, n59, Ne.symm n59, n911, Ne.symm n911, hwu]
      refine ⟨⟨k + 1, hb, c2, s2, o2, ho2, G2, l2⟩, by simp only; omega, ⟨by simp only; omega, ⟨hok', hm2⟩, hbn, nb9, nb5⟩, le_mkSl rfl ?_ ?_⟩
      · simp only [go_sem, Int.natCast_nonneg, Nat.reduceEqDiff, Nat.reduceAdd, Nat.reduceSub, Nat.reduceLT, Nat.reduceMul, Nat.reduceBEq, Nat.reduceLeDiff, ↓reduceIte, Int.toNat_natCast, Int.reduceToNat, Int.toNat_zero, Int.toNat_one, not_true_eq_false, false_or, or_self, Nat.reduceGT, Option.isSome_some, Bool.and_self, Nat.zero_add, Nat.mul_one, List.length_map, List.take_length, Int.cast_ofNat_Int, Int.reduceLE, Int.reduceLT, Int.reduceGE, Int.reduceGT, Int.reduceEq, Int.reduceNe, Int.le_refl, Nat.le_refl, Nat.reduceAdd, ne_eq, not_false_eq_true, reduceCtorEq, beq_true, beq_false, BEq.rfl, Bool.not_true, Bool.not_false, decide_true, decide_false, exists_prop]
        refine ⟨fun i x hi => ?_, fun _ _ h => h, List.Sublist.refl _, fun _ h => h⟩
        simp only [HHp, Hp.setSp, Hp.setBlk, objsAV] at hi ⊢
        by_cases e1 : i = b9
        · subst e1; simpa [Ne.symm nb9] using hi
        · simpa [e1] using hi
      · simp [go_sem, hptrAV, hwu]
    · refine brK_mk (fun h3 => ?_) (fun h3 => ?_) <;> simp only [go_sem, Int.natCast_nonneg, Nat.reduceEqDiff, Nat.reduceAdd, Nat.reduceSub, Nat.reduceLT, Nat.reduceMul, Nat.reduceBEq, Nat.reduceLeDiff, ↓reduceIte, Int.toNat_natCast, Int.reduceToNat, Int.toNat_zero, Int.toNat_one, not_true_eq_false, false_or, or_self, Nat.reduceGT, Option.isSome_some, Bool.and_self, Nat.zero_add, Nat.mul_one, List.length_map, List.take_length, Int.cast_ofNat_Int, Int.reduceLE, Int.reduceLT, Int.reduceGE, Int.reduceGT, Int.reduceEq, Int.reduceNe, Int.le_refl, Nat.le_refl, Nat.reduceAdd, ne_eq, not_false_eq_true, reduceCtorEq, beq_true, beq_false, BEq.rfl, Bool.not_true, Bool.not_false, decide_true, decide_false, exists_prop, h3]
      · skip
        simp only [HHp, go_sem, Int.natCast_nonneg, Nat.reduceEqDiff, Nat.reduceAdd, Nat.reduceSub, Nat.reduceLT, Nat.reduceMul, Nat.reduceBEq, Nat.reduceLeDiff, ↓reduceIte, Int.toNat_natCast, Int.reduceToNat, Int.toNat_zero, Int.toNat_one, not_true_eq_false, false_or, or_self, Nat.reduceGT, Option.isSome_some, Bool.and_self, Nat.zero_add, Nat.mul_one, List.length_map, List.take_length, Int.cast_ofNat_Int, Int.reduceLE, Int.reduceLT, Int.reduceGE, Int.reduceGT, Int.reduceEq, Int.reduceNe, Int.le_refl, Nat.le_refl, Nat.reduceAdd, ne_eq, not_false_eq_true, reduceCtorEq, beq_true, beq_false, BEq.rfl, Bool.not_true, Bool.not_false, decide_true, decide_false, exists_prop, Ne.symm nb9, nb9, n59, Ne.symm n59, n911, Ne.symm n911]
        refine callX_by (do2_calls (l2 := hp.sp) hok hY ho' hm x hwx) ?_
        rintro r hp3 ⟨ho2, l2, c2, s2, o2, rfl, hm2, rfl⟩
        generalize stepG size G x = G2 at *
        simp only [go_sem, Int.natCast_nonneg, Nat.reduceEqDiff, Nat.reduceAdd, Nat.reduceSub, Nat.reduceLT, Nat.reduceMul, Nat.reduceBEq, Nat.reduceLeDiff, ↓reduceIte, Int.toNat_natCast, Int.reduceToNat, Int.toNat_zero, Int.toNat_one, not_true_eq_false, false_or, or_self, Nat.reduceGT, Option.isSome_some, Bool.and_self, Nat.zero_add, Nat.mul_one, List.length_map, List.take_length, Int.cast_ofNat_Int, Int.reduceLE, Int.reduceLT, Int.reduceGE, Int.reduceGT, Int.reduceEq, Int.reduceNe, Int.le_refl, Nat.le_refl, Nat.reduceAdd, ne_eq, not_false_eq_true, reduceCtorEq, beq_true, beq_false, BEq.rfl, Bool.not_true, Bool.not_false, decide_true, decide_false, exists_prop, modelAV, modelC, objsAV, HHp, Ne.symm nb9, nb9, n59, Ne.symm n59, n911, Ne.symm n911, hwu]
        refine ⟨⟨k + 1, hb, c2, s2, o2, ho2, G2, l2⟩, by simp only; omega, ⟨by simp only; omega, ⟨hok', hm2⟩, hbn, nb9, nb5⟩, le_mkSl rfl ?_ ?_⟩
        · simp only [go_sem, Int.natCast_nonneg, Nat.reduceEqDiff, Nat.reduceAdd, Nat.reduceSub, Nat.reduceLT, Nat.reduceMul, Nat.reduceBEq, Nat.reduceLeDiff, ↓reduceIte, Int.toNat_natCast, Int.reduceToNat, Int.toNat_zero, Int.toNat_one, not_true_eq_false, false_or, or_self, Nat.reduceGT, Option.isSome_some, Bool.and_self, Nat.zero_add, Nat.mul_one, List.length_map, List.take_length, Int.cast_ofNat_Int, Int.reduceLE, Int.reduceLT, Int.reduceGE, Int.reduceGT, Int.reduceEq, Int.reduceNe, Int.le_refl, Nat.le_refl, Nat.reduceAdd, ne_eq, not_false_eq_true, reduceCtorEq, beq_true, beq_false, BEq.rfl, Bool.not_true, Bool.not_false, decide_true, decide_false, exists_prop]
          refine ⟨fun i x hi => ?_, fun _ _ h => h, List.Sublist.refl _, fun _ h => h⟩
          simp only [HHp, Hp.setSp, Hp.setBlk, objsAV] at hi ⊢
          by_cases e1 : i = b9
          · subst e1; simpa [Ne.symm nb9] using hi
          · simpa [e1] using hi
        · simp [go_sem, hptrAV, hwu]
      · skip
        simp only [go_sem, Int.natCast_nonneg, Nat.reduceEqDiff, Nat.reduceAdd, Nat.reduceSub, Nat.reduceLT, Nat.reduceMul, Nat.reduceBEq, Nat.reduceLeDiff, ↓reduceIte, Int.toNat_natCast, Int.reduceToNat, Int.toNat_zero, Int.toNat_one, not_true_eq_false, false_or, or_self, Nat.reduceGT, Option.isSome_some, Bool.and_self, Nat.zero_add, Nat.mul_one, List.length_map, List.take_length, Int.cast_ofNat_Int, Int.reduceLE, Int.reduceLT, Int.reduceGE, Int.reduceGT, Int.reduceEq, Int.reduceNe, Int.le_refl, Nat.le_refl, Nat.reduceAdd, ne_eq, not_false_eq_true, reduceCtorEq, beq_true, beq_false, BEq.rfl, Bool.not_true, Bool.not_false, decide_true, decide_false, exists_prop, hwu]
        refine ⟨⟨k + 1, hb, c, s, o, ho', G, l'⟩, by simp only; omega, ⟨by simp only; omega, ⟨hok, hm⟩, hbn, nb9, nb5⟩, le_mkSl rfl ?_ ?_⟩
        · simp only [go_sem, Int.natCast_nonneg, Nat.reduceEqDiff, Nat.reduceAdd, Nat.reduceSub, Nat.reduceLT, Nat.reduceMul, Nat.reduceBEq, Nat.reduceLeDiff, ↓reduceIte, Int.toNat_natCast, Int.reduceToNat, Int.toNat_zero, Int.toNat_one, not_true_eq_false, false_or, or_self, Nat.reduceGT, Option.isSome_some, Bool.and_self, Nat.zero_add, Nat.mul_one, List.length_map, List.take_length, Int.cast_ofNat_Int, Int.reduceLE, Int.reduceLT, Int.reduceGE, Int.reduceGT, Int.reduceEq, Int.reduceNe, Int.le_refl, Nat.le_refl, Nat.reduceAdd, ne_eq, not_false_eq_true, reduceCtorEq, beq_true, beq_false, BEq.rfl, Bool.not_true, Bool.not_false, decide_true, decide_false, exists_prop]
          exact hY
        · simp [go_sem, hptrAV, hwu]
  · refine draw_by (mu := [5, 9, 11]) (fun h => h.blk b9 = some (31, [.v (.int .i64 size), objsAV ho' l'])) (.take 0 (.take 1 (.take 2 (.br 3 (.take 4 (.done)) (.stop))))) (by decide +kernel) (by simp only [go_sem, Int.natCast_nonneg, Nat.reduceEqDiff, Nat.reduceAdd, Nat.reduceSub, Nat.reduceLT, Nat.reduceMul, Nat.reduceBEq, Nat.reduceLeDiff, ↓reduceIte, Int.toNat_natCast, Int.reduceToNat, Int.toNat_zero, Int.toNat_one, not_true_eq_false, false_or, or_self, Nat.reduceGT, Option.isSome_some, Bool.and_self, Nat.zero_add, Nat.mul_one, List.length_map, List.take_length, Int.cast_ofNat_Int, Int.reduceLE, Int.reduceLT, Int.reduceGE, Int.reduceGT, Int.reduceEq, Int.reduceNe, Int.le_refl, Nat.le_refl, Nat.reduceAdd, ne_eq, not_false_eq_true, reduceCtorEq, beq_true, beq_false, BEq.rfl, Bool.not_true, Bool.not_false, decide_true, decide_false, exists_prop, HHp, nb9, Ne.symm nb9]) (by decide +kernel) (by decide +kernel) ?_
    simp only [go_sem, Int.natCast_nonneg, Nat.reduceEqDiff, Nat.reduceAdd, Nat.reduceSub, Nat.reduceLT, Nat.reduceMul, Nat.reduceBEq, Nat.reduceLeDiff, ↓reduceIte, Int.toNat_natCast, Int.reduceToNat, Int.toNat_zero, Int.toNat_one, not_true_eq_false, false_or, or_self, Nat.reduceGT, Option.isSome_some, Bool.and_self, Nat.zero_add, Nat.mul_one, List.length_map, List.take_length, Int.cast_ofNat_Int, Int.reduceLE, Int.reduceLT, Int.reduceGE, Int.reduceGT, Int.reduceEq, Int.reduceNe, Int.le_refl, Nat.le_refl, Nat.reduceAdd, ne_eq, not_false_eq_true, reduceCtorEq, beq_true, beq_false, BEq.rfl, Bool.not_true, Bool.not_false, decide_true, decide_false, exists_prop, HHp, nb9, Ne.symm nb9, nb5, Ne.symm nb5, n59, Ne.symm n59]
    refine ⟨fun h e => by rw [e]; simp only [go_sem, Int.natCast_nonneg, Nat.reduceEqDiff, Nat.reduceAdd, Nat.reduceSub, Nat.reduceLT, Nat.reduceMul, Nat.reduceBEq, Nat.reduceLeDiff, ↓reduceIte, Int.toNat_natCast, Int.reduceToNat, Int.toNat_zero, Int.toNat_one, not_true_eq_false, false_or, or_self, Nat.reduceGT, Option.isSome_some, Bool.and_self, Nat.zero_add, Nat.mul_one, List.length_map, List.take_length, Int.cast_ofNat_Int, Int.reduceLE, Int.reduceLT, Int.reduceGE, Int.reduceGT, Int.reduceEq, Int.reduceNe, Int.le_refl, Nat.le_refl, Nat.reduceAdd, ne_eq, not_false_eq_true, reduceCtorEq, beq_true, beq_false, BEq.rfl, Bool.not_true, Bool.not_false, decide_true, decide_false, exists_prop], rfl, ret_le (hp' := HHp hp hb size c s o G hp.sp) ⟨fun i x hi => ?_, fun _ _ h => h, List.Sublist.refl _, fun _ h => h⟩ ⟨hb, c, s, o, ho', l', G, rfl, hok, hm, hbn, rfl⟩⟩
    have e5 : i ≠ b5 := by rintro rfl; simp [HHp, Hp.setSp, Hp.setBlk, Ne.symm nb5, hb5n] at hi
    have e9 : i ≠ b9 := by rintro rfl; simp [HHp, Hp.setSp, Hp.setBlk, Ne.symm nb9, hb9n] at hi
    simpa [HHp, Hp.setBlk, Hp.setSp, e5, e9] using hi
end Go.Proofs.Ytfdlfcafcjhpmaa
/- Heaps: two heaps at once. -/
set_option linter.unusedSimpArgs false
set_option linter.unusedVariables false
set_option maxRecDepth 20000
set_option maxHeartbeats 4000000
namespace Go.Proofs.Ytfdlfcafcjhpmaa
open Go.AL

/-- A heap's headers. -/
structure Hdr where
  c : Value
  s : Value
  o : Value
/-- Two heaps. -/
def HH2 (X : Hp) (h1 h2 : Nat) (size : Int) (a b : Hdr) (G1 G2 : List ObjG) : Hp :=
  HHp (HHp X h1 size a.c a.s a.o G1 X.sp) h2 size b.c b.s b.o G2 (spE a.c a.s a.o X.sp)
theorem spE_perm (a b : Hdr) (l : List (TypeId × Nat × Value)) : (spE b.c b.s b.o (spE a.c a.s a.o l)).Perm (spE a.c a.s a.o (spE b.c b.s b.o l)) :=
  (List.perm_append_comm (l₁ := [(65, 2, b.c), (3, 1, b.s), (3, 1, b.o)]) (l₂ := [(65, 2, a.c), (3, 1, a.s), (3, 1, a.o)])).append_right l
theorem hh2_swap {X : Hp} {h1 h2 : Nat} (hne : h1 ≠ h2) (size : Int) (a b : Hdr) (G1 G2 : List ObjG) :
    HH2 X h2 h1 size b a G2 G1 = (HH2 X h1 h2 size a b G1 G2).setSp (spE a.c a.s a.o (spE b.c b.s b.o X.sp)) := by
  simp only [HH2, HHp, Hp.setSp, Hp.setBlk, Hp.mk.injEq, and_true, true_and]
  funext i
  by_cases e1 : i = h1
  · subst e1; simp [hne]
  · by_cases e2 : i = h2
    · subst e2; simp [e1]
    · simp [e1, e2]
theorem hh2_sp (X : Hp) (h1 h2 : Nat) (size : Int) (a b : Hdr) (G1 G2 : List ObjG) : (HH2 X h1 h2 size a b G1 G2).sp = spE b.c b.s b.o (spE a.c a.s a.o X.sp) := rfl
theorem hh2_ok {base : Nat} {m : Mem} {w : World} {X : Hp} {h1 h2 : Nat} (hne : h1 ≠ h2) {size : Int} {a b : Hdr} {G1 G2 : List ObjG} (h : HpOk base (HH2 X h1 h2 size a b G1 G2) m w) : HpOk base (HH2 X h2 h1 size b a G2 G1) m w := by
  rw [hh2_swap hne]
  exact h.perm (spE_perm a b X.sp)
theorem acalls_hh2 {f : FuncId} {args : List AV} {R : AV → Hp → Prop} {X : Hp} {h1 h2 : Nat} (hne : h1 ≠ h2) {size : Int} {a b : Hdr} {G1 G2 : List ObjG} (h : ACalls Try.prog f args (HH2 X h2 h1 size b a G2 G1) R) : ACalls Try.prog f args (HH2 X h1 h2 size a b G1 G2) R :=
  ⟨h.1, fun F w ⟨hlo, m, hle, hhp, ho⟩ => h.2 F w ⟨hlo, m, hle, hh2_ok hne hhp, ho⟩⟩

section
variable {X Y : Hp} {h1 h2 : Nat} {size : Int} {a b : Hdr} {G1 G2 : List ObjG}
/-- A call on the second heap. -/
theorem doB_calls (hok : Okay size G2) (hY : (HH2 X h1 h2 size a b G1 G2).le Y) (hm0 : Value) {l : List RObj} (hm : MR G2 l) (op : OpG) (hw : op.ws.length ≤ 8796093022000) : ACalls Try.prog 17 [hptrAV h2, modelAV size hm0 l, op.av] Y
    (fun r hp' => ∃ ho' l' b', r = .tup [modelAV size ho' l', .v (.bool true)] ∧ MR (stepG size G2 op) l' ∧ hp' = HH2 X h1 h2 size a b' G1 (stepG size G2 op)) := by
  refine (do2_calls hok hY hm0 hm op hw).mono ?_
  rintro r hp' ⟨ho', l', c', s', o', rfl, hm', rfl⟩
  exact ⟨ho', l', ⟨c', s', o'⟩, rfl, hm', rfl⟩
/-- A call on the first heap. -/
theorem doA_calls (hne : h1 ≠ h2) (hok : Okay size G1) (hY : (HH2 X h1 h2 size a b G1 G2).le Y) (hm0 : Value) {l : List RObj} (hm : MR G1 l) (op : OpG) (hw : op.ws.length ≤ 8796093022000) : ACalls Try.prog 17 [hptrAV h1, modelAV size hm0 l, op.av] Y
    (fun r hp' => ∃ ho' l' a', r = .tup [modelAV size ho' l', .v (.bool true)] ∧ MR (stepG size G1 op) l' ∧ hp' = HH2 X h1 h2 size a' b (stepG size G1 op) G2) := by
  refine acalls_less hY (acalls_hh2 hne (acalls_res (doB_calls hok (Hp.le_refl _) hm0 hm op hw) ?_))
  rintro r hp' ⟨ho', l', a', rfl, hm', rfl⟩
  exact ⟨HH2 X h1 h2 size a' b (stepG size G1 op) G2, ⟨ho', l', a', rfl, hm', rfl⟩, fun base m w h => hh2_ok (Ne.symm hne) h⟩
/-- A fork beside its heap. -/
theorem fork3_calls (hok : Okay size G1) (hY : (HHp X h1 size a.c a.s a.o G1 X.sp).le Y) : ACalls Try.prog 16 [hptrAV h1] Y
    (fun r hp' => ∃ b h2, r = hptrAV h2 ∧ X.blk h2 = none ∧ h1 ≠ h2 ∧ hp' = HH2 X h1 h2 size a b G1 G1) := by
  have hN := hok.n
  have hGl := len_endO G1
  have hc1 : (spOf G1).c.length = endO G1 := cellsO_len G1
  have hs1 : (spOf G1).s.length = endO G1 := sizesO_len G1
  have ho1 : (spOf G1).o.length = G1.length := addrsF_len 0 G1
  refine acalls_less hY (acalls_res (forkH_calls (hhp_blk ..) (by omega) (by omega) (by omega)) ?_)
  rintro r hp' ⟨h2, c', s', o', rfl, hf, rfl⟩
  have hne : h2 ≠ h1 := by rintro rfl; have := hf.1; rw [hhp_blk] at this; cases this
  have hXb : X.blk h2 = none := by have := hf.1; simpa [HHp, Hp.setBlk, Hp.setSp, hne] using this
  refine ⟨HH2 X h1 h2 size a ⟨c', s', o'⟩ G1 G1, ⟨⟨c', s', o'⟩, h2, rfl, hXb, Ne.symm hne, rfl⟩, fun base m w h => ?_⟩
  exact h.perm (l := spE c' s' o' (spE a.c a.s a.o X.sp)) (((List.reverse_perm [(3, 1, o'), (3, 1, s'), (65, 2, c')]).symm.append_right (spE a.c a.s a.o X.sp)))
end
end Go.Proofs.Ytfdlfcafcjhpmaa
