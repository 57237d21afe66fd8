/- Heaps: the law's alloc, look, collect, do. -/
import Derived.Test.YtfdlfcafcjhpmaaCH18
set_option linter.unusedSimpArgs false
set_option linter.unusedVariables false
set_option maxRecDepth 20000
set_option maxHeartbeats 4000000
namespace Go.Proofs.Ytfdlfcafcjhpmaa
open Go.AL

section
variable {G : List ObjG} {hb : Nat} {size : Int} {hc hs ho : Value} {hp : Hp} {l2 : List (TypeId × Nat × Value)}

theorem lalloc_calls (hblk : hp.blk hb = some (105, HeapV size hc hs ho (spOf G))) (hsp : hp.sp = spE hc hs ho l2) (hok : Okay size G) (hm0 : Value) {l : List RObj} (hm : MR G l) (o : OpG) :
    ACalls Try.prog 59 [hptrAV hb, modelAV size hm0 l, o.av] hp (DoR size (allocG size G o.a o.ws) hb l2 hp) := by
  have hN := hok.n
  have hGl := len_endO G
  have hc1 : (spOf G).c.length = endO G := cellsO_len G
  refine acalls_of Try.func59 rfl (by decide +kernel) (awp_sound (mu := [6, 10]) _ _ _ ?_)
  simp only [go_sem, Int.natCast_nonneg, Nat.reduceEqDiff, Nat.reduceAdd, Nat.reduceSub, Nat.reduceLT, Nat.reduceMul, Nat.reduceBEq, Nat.reduceLeDiff, ↓reduceIte, Int.toNat_natCast, Int.reduceToNat, Int.toNat_zero, Int.toNat_one, not_true_eq_false, false_or, or_self, Nat.reduceGT, Option.isSome_some, Bool.and_self, Nat.zero_add, Nat.mul_one, List.length_map, List.take_length, Int.cast_ofNat_Int, Int.reduceLE, Int.reduceLT, Int.reduceGE, Int.reduceGT, Int.reduceEq, Int.reduceNe, Int.le_refl, Nat.le_refl, Nat.reduceAdd, ne_eq, not_false_eq_true, reduceCtorEq, beq_true, beq_false, BEq.rfl, Bool.not_true, Bool.not_false, decide_true, decide_false, exists_prop, modelAV, OpG.av, OpG.cs, hptrAV, iv, wordsAV]
  intro pm po b6 hb6
  have n6 : b6 ≠ hb := by rintro rfl; rw [hb6.1] at hblk; cases hblk
  have hblk6 : (hp.setBlk b6 31 [.v (.int .i64 0), .v (.slice none 0 0)]).blk hb = some (105, HeapV size hc hs ho (spOf G)) := by rw [Hp.setBlk_blk, if_neg (Ne.symm n6)]; exact hblk
  refine callX_by (allocH_calls (l2 := l2) hblk6 hsp o.a o.h o.ws (by omega) (by simp only [spOf, sizesO_len]; omega) (by simp only [spOf, addrsF_len]; omega)) ?_
  rintro r hp1 ⟨rfl, hh⟩
  have hh' : ∃ c s o', hp1 = HHp (hp.setBlk b6 31 [.v (.int .i64 0), .v (.slice none 0 0)]) hb size c s o' (allocG size G o.a o.ws) l2 := by
    rcases hh with ⟨he, rfl⟩ | ⟨he, c, s, o', rfl⟩
    · rw [allocG, if_neg he]; exact ⟨hc, hs, ho, (hhp_self hblk6 hsp).symm⟩
    · rw [allocG, if_pos he]; exact ⟨c, s, o', by rw [HHp, ← spOf_app]⟩
  obtain ⟨c, s, o', rfl⟩ := hh'
  clear hh
  simp only [go_sem, Int.natCast_nonneg, Nat.reduceEqDiff, Nat.reduceAdd, Nat.reduceSub, Nat.reduceLT, Nat.reduceMul, Nat.reduceBEq, Nat.reduceLeDiff, ↓reduceIte, Int.toNat_natCast, Int.reduceToNat, Int.toNat_zero, Int.toNat_one, not_true_eq_false, false_or, or_self, Nat.reduceGT, Option.isSome_some, Bool.and_self, Nat.zero_add, Nat.mul_one, List.length_map, List.take_length, Int.cast_ofNat_Int, Int.reduceLE, Int.reduceLT, Int.reduceGE, Int.reduceGT, Int.reduceEq, Int.reduceNe, Int.le_refl, Nat.le_refl, Nat.reduceAdd, ne_eq, not_false_eq_true, reduceCtorEq, beq_true, beq_false, BEq.rfl, Bool.not_true, Bool.not_false, decide_true, decide_false, exists_prop, modelC, objsAV, iv]
  refine callX_by (ralloc_calls size hm0 o.h hm (by omega) o.a o.ws _) ?_
  rintro r hp2 ⟨⟨ho', l', rfl, hm'⟩, rfl⟩
  simp only [go_sem, Int.natCast_nonneg, Nat.reduceEqDiff, Nat.reduceAdd, Nat.reduceSub, Nat.reduceLT, Nat.reduceMul, Nat.reduceBEq, Nat.reduceLeDiff, ↓reduceIte, Int.toNat_natCast, Int.reduceToNat, Int.toNat_zero, Int.toNat_one, not_true_eq_false, false_or, or_self, Nat.reduceGT, Option.isSome_some, Bool.and_self, Nat.zero_add, Nat.mul_one, List.length_map, List.take_length, Int.cast_ofNat_Int, Int.reduceLE, Int.reduceLT, Int.reduceGE, Int.reduceGT, Int.reduceEq, Int.reduceNe, Int.le_refl, Nat.le_refl, Nat.reduceAdd, ne_eq, not_false_eq_true, reduceCtorEq, beq_true, beq_false, BEq.rfl, Bool.not_true, Bool.not_false, decide_true, decide_false, exists_prop, modelAV, modelC, objsAV, iv, hc1, HHp]
  intro b10 hb10
  have n610 : b6 ≠ b10 := by rintro rfl; have := hb10.1; simp [Hp.setBlk, Hp.setSp, n6] at this
  have n10 : b10 ≠ hb := by rintro rfl; have := hb10.1; simp [Hp.setBlk, Hp.setSp] at this
  have hb10n : hp.blk b10 = none := by have := hb10.1; simpa [Hp.setBlk, Hp.setSp, n10, Ne.symm n610] using this
  simp only [go_sem, Int.natCast_nonneg, Nat.reduceEqDiff, Nat.reduceAdd, Nat.reduceSub, Nat.reduceLT, Nat.reduceMul, Nat.reduceBEq, Nat.reduceLeDiff, ↓reduceIte, Int.toNat_natCast, Int.reduceToNat, Int.toNat_zero, Int.toNat_one, not_true_eq_false, false_or, or_self, Nat.reduceGT, Option.isSome_some, Bool.and_self, Nat.zero_add, Nat.mul_one, List.length_map, List.take_length, Int.cast_ofNat_Int, Int.reduceLE, Int.reduceLT, Int.reduceGE, Int.reduceGT, Int.reduceEq, Int.reduceNe, Int.le_refl, Nat.le_refl, Nat.reduceAdd, ne_eq, not_false_eq_true, reduceCtorEq, beq_true, beq_false, BEq.rfl, Bool.not_true, Bool.not_false, decide_true, decide_false, exists_prop, n610, Ne.symm n610, n6, Ne.symm n6, n10, Ne.symm n10]
  refine ret_le (hp' := HHp hp hb size c s o' (allocG size G o.a o.ws) l2) ⟨fun i x hi => ?_, fun _ _ h => h, List.Sublist.refl _, fun _ h => h⟩ ⟨ho', l', c, s, o', rfl, hm', rfl⟩
  have e6 : i ≠ b6 := by rintro rfl; simp [HHp, Hp.setSp, Hp.setBlk, n6, hb6.1] at hi
  have e10 : i ≠ b10 := by rintro rfl; simp [HHp, Hp.setSp, Hp.setBlk, n10, hb10n] at hi
  simpa [HHp, Hp.setBlk, Hp.setSp, e6, e10] using hi

theorem llook_calls (hblk : hp.blk hb = some (105, HeapV size hc hs ho (spOf G))) (hok : Okay size G) (hm0 : Value) {l : List RObj} (hm : MR G l) (o : OpG) :
    ACalls Try.prog 60 [hptrAV hb, modelAV size hm0 l, o.av] hp (fun r hp' => r = .v (.bool true) ∧ hp' = hp) := by
  have hN := hok.n
  have hGl := len_endO G
  have hc1 : (spOf G).c.length = endO G := cellsO_len G
  refine acalls_of Try.func60 rfl (by decide +kernel) (awp_sound (mu := [11, 14]) _ _ _ ?_)
  simp only [go_sem, Int.natCast_nonneg, Nat.reduceEqDiff, Nat.reduceAdd, Nat.reduceSub, Nat.reduceLT, Nat.reduceMul, Nat.reduceBEq, Nat.reduceLeDiff, ↓reduceIte, Int.toNat_natCast, Int.reduceToNat, Int.toNat_zero, Int.toNat_one, not_true_eq_false, false_or, or_self, Nat.reduceGT, Option.isSome_some, Bool.and_self, Nat.zero_add, Nat.mul_one, List.length_map, List.take_length, Int.cast_ofNat_Int, Int.reduceLE, Int.reduceLT, Int.reduceGE, Int.reduceGT, Int.reduceEq, Int.reduceNe, Int.le_refl, Nat.le_refl, Nat.reduceAdd, ne_eq, not_false_eq_true, reduceCtorEq, beq_true, beq_false, BEq.rfl, Bool.not_true, Bool.not_false, decide_true, decide_false, exists_prop, modelAV, OpG.av, OpG.cs, hptrAV, iv, wordsAV]
  intro pm po
  have hhas : hasL (spOf G).s o.a = (objAt G o.a).isSome := has_obj G o.a
  cases hob : objAt G o.a with
  | none =>
    replace hhas : hasL (spOf G).s o.a = false := by rw [hhas, hob]; rfl
    refine callX_by (tagH_calls hblk o.a ⟨false, 0⟩ (by intro h; rw [hhas] at h; cases h)) ?_
    rintro r hp1 ⟨rfl, rfl⟩
    simp only [go_sem, Int.natCast_nonneg, Nat.reduceEqDiff, Nat.reduceAdd, Nat.reduceSub, Nat.reduceLT, Nat.reduceMul, Nat.reduceBEq, Nat.reduceLeDiff, ↓reduceIte, Int.toNat_natCast, Int.reduceToNat, Int.toNat_zero, Int.toNat_one, not_true_eq_false, false_or, or_self, Nat.reduceGT, Option.isSome_some, Bool.and_self, Nat.zero_add, Nat.mul_one, List.length_map, List.take_length, Int.cast_ofNat_Int, Int.reduceLE, Int.reduceLT, Int.reduceGE, Int.reduceGT, Int.reduceEq, Int.reduceNe, Int.le_refl, Nat.le_refl, Nat.reduceAdd, ne_eq, not_false_eq_true, reduceCtorEq, beq_true, beq_false, BEq.rfl, Bool.not_true, Bool.not_false, decide_true, decide_false, exists_prop, hhas, Bool.false_eq_true, if_false, iv, hptrAV]
    refine callX_by (fieldsH_calls hblk (spOk G) (by omega) o.a) ?_
    rintro r hp1 ⟨⟨h9, rfl⟩, rfl⟩
    simp only [go_sem, Int.natCast_nonneg, Nat.reduceEqDiff, Nat.reduceAdd, Nat.reduceSub, Nat.reduceLT, Nat.reduceMul, Nat.reduceBEq, Nat.reduceLeDiff, ↓reduceIte, Int.toNat_natCast, Int.reduceToNat, Int.toNat_zero, Int.toNat_one, not_true_eq_false, false_or, or_self, Nat.reduceGT, Option.isSome_some, Bool.and_self, Nat.zero_add, Nat.mul_one, List.length_map, List.take_length, Int.cast_ofNat_Int, Int.reduceLE, Int.reduceLT, Int.reduceGE, Int.reduceGT, Int.reduceEq, Int.reduceNe, Int.le_refl, Nat.le_refl, Nat.reduceAdd, ne_eq, not_false_eq_true, reduceCtorEq, beq_true, beq_false, BEq.rfl, Bool.not_true, Bool.not_false, decide_true, decide_false, exists_prop, hhas, Bool.false_eq_true, if_false, iv, wordsAV]
    refine callX_by (fieldH_calls hblk (spOk G) (by omega) o.a o.i) ?_
    rintro r hp1 ⟨rfl, rfl⟩
    simp only [go_sem, Int.natCast_nonneg, Nat.reduceEqDiff, Nat.reduceAdd, Nat.reduceSub, Nat.reduceLT, Nat.reduceMul, Nat.reduceBEq, Nat.reduceLeDiff, ↓reduceIte, Int.toNat_natCast, Int.reduceToNat, Int.toNat_zero, Int.toNat_one, not_true_eq_false, false_or, or_self, Nat.reduceGT, Option.isSome_some, Bool.and_self, Nat.zero_add, Nat.mul_one, List.length_map, List.take_length, Int.cast_ofNat_Int, Int.reduceLE, Int.reduceLT, Int.reduceGE, Int.reduceGT, Int.reduceEq, Int.reduceNe, Int.le_refl, Nat.le_refl, Nat.reduceAdd, ne_eq, not_false_eq_true, reduceCtorEq, beq_true, beq_false, BEq.rfl, Bool.not_true, Bool.not_false, decide_true, decide_false, exists_prop, hhas, Bool.false_eq_true, if_false, iv, WordG.av, WordG.cs, modelC, objsAV]
    intro b11 hb11
    have hfn : findL l o.a 0 = -1 := findL_none 0 (by rw [mr_adr hm, ← objF_mem]; rw [show objF 0 G o.a = none from hob]; simp)
    refine callX_by (find_calls size hm0 l o.a _) ?_
    rintro r hp2 ⟨rfl, rfl⟩
    simp only [go_sem, Int.natCast_nonneg, Nat.reduceEqDiff, Nat.reduceAdd, Nat.reduceSub, Nat.reduceLT, Nat.reduceMul, Nat.reduceBEq, Nat.reduceLeDiff, ↓reduceIte, Int.toNat_natCast, Int.reduceToNat, Int.toNat_zero, Int.toNat_one, not_true_eq_false, false_or, or_self, Nat.reduceGT, Option.isSome_some, Bool.and_self, Nat.zero_add, Nat.mul_one, List.length_map, List.take_length, Int.cast_ofNat_Int, Int.reduceLE, Int.reduceLT, Int.reduceGE, Int.reduceGT, Int.reduceEq, Int.reduceNe, Int.le_refl, Nat.le_refl, Nat.reduceAdd, ne_eq, not_false_eq_true, reduceCtorEq, beq_true, beq_false, BEq.rfl, Bool.not_true, Bool.not_false, decide_true, decide_false, exists_prop, hfn, List.length_nil]
    exact ret_le (le_fresh (l := hp1.sp) hb11.1 rfl rfl (List.Sublist.refl _) rfl) ⟨rfl, rfl⟩
  | some ob =>
    replace hhas : hasL (spOf G).s o.a = true := by rw [hhas, hob]; rfl
    obtain ⟨g1, g2, g3, g4, g5⟩ := obj_spec hob
    obtain ⟨j, r, hj, hjr, hra, hrtg, hrf⟩ := mr_find hm hob
    have hjn : ((j : Nat) : Int).toNat = j := by omega
    have hj0 : ¬ ((j : Int) < 0) := by omega
    refine callX_by (tagH_calls hblk o.a ⟨false, ob.tag⟩ (fun _ => g2)) ?_
    rintro r' hp1 ⟨rfl, rfl⟩
    simp only [go_sem, Int.natCast_nonneg, Nat.reduceEqDiff, Nat.reduceAdd, Nat.reduceSub, Nat.reduceLT, Nat.reduceMul, Nat.reduceBEq, Nat.reduceLeDiff, ↓reduceIte, Int.toNat_natCast, Int.reduceToNat, Int.toNat_zero, Int.toNat_one, not_true_eq_false, false_or, or_self, Nat.reduceGT, Option.isSome_some, Bool.and_self, Nat.zero_add, Nat.mul_one, List.length_map, List.take_length, Int.cast_ofNat_Int, Int.reduceLE, Int.reduceLT, Int.reduceGE, Int.reduceGT, Int.reduceEq, Int.reduceNe, Int.le_refl, Nat.le_refl, Nat.reduceAdd, ne_eq, not_false_eq_true, reduceCtorEq, beq_true, beq_false, BEq.rfl, Bool.not_true, Bool.not_false, decide_true, decide_false, exists_prop, hhas, iv, hptrAV]
    refine callX_by (fieldsH_calls hblk (spOk G) (by omega) o.a) ?_
    rintro r' hp1 ⟨⟨h9, rfl⟩, rfl⟩
    simp only [go_sem, Int.natCast_nonneg, Nat.reduceEqDiff, Nat.reduceAdd, Nat.reduceSub, Nat.reduceLT, Nat.reduceMul, Nat.reduceBEq, Nat.reduceLeDiff, ↓reduceIte, Int.toNat_natCast, Int.reduceToNat, Int.toNat_zero, Int.toNat_one, not_true_eq_false, false_or, or_self, Nat.reduceGT, Option.isSome_some, Bool.and_self, Nat.zero_add, Nat.mul_one, List.length_map, List.take_length, Int.cast_ofNat_Int, Int.reduceLE, Int.reduceLT, Int.reduceGE, Int.reduceGT, Int.reduceEq, Int.reduceNe, Int.le_refl, Nat.le_refl, Nat.reduceAdd, ne_eq, not_false_eq_true, reduceCtorEq, beq_true, beq_false, BEq.rfl, Bool.not_true, Bool.not_false, decide_true, decide_false, exists_prop, hhas, iv, wordsAV, g5]
    refine callX_by (fieldH_calls hblk (spOk G) (by omega) o.a o.i) ?_
    rintro r' hp1 ⟨rfl, rfl⟩
    cases hi : (decide (o.i ≥ 0) && decide (o.i < (ob.fs.length : Int))) with
    | false =>
      simp only [go_sem, Int.natCast_nonneg, Nat.reduceEqDiff, Nat.reduceAdd, Nat.reduceSub, Nat.reduceLT, Nat.reduceMul, Nat.reduceBEq, Nat.reduceLeDiff, ↓reduceIte, Int.toNat_natCast, Int.reduceToNat, Int.toNat_zero, Int.toNat_one, not_true_eq_false, false_or, or_self, Nat.reduceGT, Option.isSome_some, Bool.and_self, Nat.zero_add, Nat.mul_one, List.length_map, List.take_length, Int.cast_ofNat_Int, Int.reduceLE, Int.reduceLT, Int.reduceGE, Int.reduceGT, Int.reduceEq, Int.reduceNe, Int.le_refl, Nat.le_refl, Nat.reduceAdd, ne_eq, not_false_eq_true, reduceCtorEq, beq_true, beq_false, BEq.rfl, Bool.not_true, Bool.not_false, decide_true, decide_false, exists_prop, hhas, iv, WordG.av, WordG.cs, modelC, objsAV, g5, hi, Bool.false_eq_true, if_false]
      intro b11 hb11
      refine callX_by (find_calls size hm0 l o.a _) ?_
      rintro r' hp2 ⟨rfl, rfl⟩
      simp only [go_sem, Int.natCast_nonneg, Nat.reduceEqDiff, Nat.reduceAdd, Nat.reduceSub, Nat.reduceLT, Nat.reduceMul, Nat.reduceBEq, Nat.reduceLeDiff, ↓reduceIte, Int.toNat_natCast, Int.reduceToNat, Int.toNat_zero, Int.toNat_one, not_true_eq_false, false_or, or_self, Nat.reduceGT, Option.isSome_some, Bool.and_self, Nat.zero_add, Nat.mul_one, List.length_map, List.take_length, Int.cast_ofNat_Int, Int.reduceLE, Int.reduceLT, Int.reduceGE, Int.reduceGT, Int.reduceEq, Int.reduceNe, Int.le_refl, Nat.le_refl, Nat.reduceAdd, ne_eq, not_false_eq_true, reduceCtorEq, beq_true, beq_false, BEq.rfl, Bool.not_true, Bool.not_false, decide_true, decide_false, exists_prop, hj, hj0, hjn, map_at' RObj.av _ _ _ hjr, RObj.av, RObj.cs, decide_false, hrtg, hrf]
      intro b14 hb14
      have n14 : b11 ≠ b14 := by rintro rfl; have := hb14.1; simp [Hp.setBlk] at this
      have hb14n : hp1.blk b14 = none := by have := hb14.1; simpa [Hp.setBlk, Ne.symm n14] using this
      refine callX_by (words_calls h9 r.h ob.fs ob.fs _) ?_
      rintro r' hp3 ⟨rfl, rfl⟩
      have hweq : sameL eqW ob.fs ob.fs = true := (words_iff _ _).2 rfl
      simp only [go_sem, Int.natCast_nonneg, Nat.reduceEqDiff, Nat.reduceAdd, Nat.reduceSub, Nat.reduceLT, Nat.reduceMul, Nat.reduceBEq, Nat.reduceLeDiff, ↓reduceIte, Int.toNat_natCast, Int.reduceToNat, Int.toNat_zero, Int.toNat_one, not_true_eq_false, false_or, or_self, Nat.reduceGT, Option.isSome_some, Bool.and_self, Nat.zero_add, Nat.mul_one, List.length_map, List.take_length, Int.cast_ofNat_Int, Int.reduceLE, Int.reduceLT, Int.reduceGE, Int.reduceGT, Int.reduceEq, Int.reduceNe, Int.le_refl, Nat.le_refl, Nat.reduceAdd, ne_eq, not_false_eq_true, reduceCtorEq, beq_true, beq_false, BEq.rfl, Bool.not_true, Bool.not_false, decide_true, decide_false, exists_prop, hweq, n14, Ne.symm n14]
      have hfin : hp1.le ((hp1.setBlk b11 65 [.v (.bool false), .v (.int .i64 0)]).setBlk b14 111 [.v (.int .i64 r.adr), .v (.int .i64 ob.tag), .lst 2 r.h (ob.fs.map WordG.av)]) := by
        refine ⟨fun i z hi => ?_, fun _ _ h => h, List.Sublist.refl _, fun _ h => h⟩
        have e1 : i ≠ b11 := by rintro rfl; have := hb11.1; rw [this] at hi; cases hi
        have e2 : i ≠ b14 := by rintro rfl; rw [hb14n] at hi; cases hi
        simpa [Hp.setBlk, e1, e2] using hi
      simp only [Bool.and_eq_false_iff, decide_eq_false_iff_not] at hi
      refine brK_mk (fun h5 => ?_) (fun h5 => ?_) <;> simp only [go_sem, Int.natCast_nonneg, Nat.reduceEqDiff, Nat.reduceAdd, Nat.reduceSub, Nat.reduceLT, Nat.reduceMul, Nat.reduceBEq, Nat.reduceLeDiff, ↓reduceIte, Int.toNat_natCast, Int.reduceToNat, Int.toNat_zero, Int.toNat_one, not_true_eq_false, false_or, or_self, Nat.reduceGT, Option.isSome_some, Bool.and_self, Nat.zero_add, Nat.mul_one, List.length_map, List.take_length, Int.cast_ofNat_Int, Int.reduceLE, Int.reduceLT, Int.reduceGE, Int.reduceGT, Int.reduceEq, Int.reduceNe, Int.le_refl, Nat.le_refl, Nat.reduceAdd, ne_eq, not_false_eq_true, reduceCtorEq, beq_true, beq_false, BEq.rfl, Bool.not_true, Bool.not_false, decide_true, decide_false, exists_prop, h5, n14, Ne.symm n14]
      · exact ret_le hfin ⟨rfl, rfl⟩
      · refine brK_mk (fun h6 => ?_) (fun h6 => ?_)
        · simp only [go_sem, Int.natCast_nonneg, Nat.reduceEqDiff, Nat.reduceAdd, Nat.reduceSub, Nat.reduceLT, Nat.reduceMul, Nat.reduceBEq, Nat.reduceLeDiff, ↓reduceIte, Int.toNat_natCast, Int.reduceToNat, Int.toNat_zero, Int.toNat_one, not_true_eq_false, false_or, or_self, Nat.reduceGT, Option.isSome_some, Bool.and_self, Nat.zero_add, Nat.mul_one, List.length_map, List.take_length, Int.cast_ofNat_Int, Int.reduceLE, Int.reduceLT, Int.reduceGE, Int.reduceGT, Int.reduceEq, Int.reduceNe, Int.le_refl, Nat.le_refl, Nat.reduceAdd, ne_eq, not_false_eq_true, reduceCtorEq, beq_true, beq_false, BEq.rfl, Bool.not_true, Bool.not_false, decide_true, decide_false, exists_prop, h6, n14, Ne.symm n14]
          exact ret_le hfin ⟨rfl, rfl⟩
        · exfalso; simp at h5 h6; omega
    | true =>
      have hi2 := hi
      simp only [Bool.and_eq_true, decide_eq_true_eq] at hi2
      obtain ⟨w, hw⟩ := some_at' ob.fs o.i.toNat (by omega)
      simp only [go_sem, Int.natCast_nonneg, Nat.reduceEqDiff, Nat.reduceAdd, Nat.reduceSub, Nat.reduceLT, Nat.reduceMul, Nat.reduceBEq, Nat.reduceLeDiff, ↓reduceIte, Int.toNat_natCast, Int.reduceToNat, Int.toNat_zero, Int.toNat_one, not_true_eq_false, false_or, or_self, Nat.reduceGT, Option.isSome_some, Bool.and_self, Nat.zero_add, Nat.mul_one, List.length_map, List.take_length, Int.cast_ofNat_Int, Int.reduceLE, Int.reduceLT, Int.reduceGE, Int.reduceGT, Int.reduceEq, Int.reduceNe, Int.le_refl, Nat.le_refl, Nat.reduceAdd, ne_eq, not_false_eq_true, reduceCtorEq, beq_true, beq_false, BEq.rfl, Bool.not_true, Bool.not_false, decide_true, decide_false, exists_prop, hhas, iv, WordG.av, WordG.cs, modelC, objsAV, g5, hi, hw, Option.getD_some]
      intro b11 hb11
      refine callX_by (find_calls size hm0 l o.a _) ?_
      rintro r' hp2 ⟨rfl, rfl⟩
      simp only [go_sem, Int.natCast_nonneg, Nat.reduceEqDiff, Nat.reduceAdd, Nat.reduceSub, Nat.reduceLT, Nat.reduceMul, Nat.reduceBEq, Nat.reduceLeDiff, ↓reduceIte, Int.toNat_natCast, Int.reduceToNat, Int.toNat_zero, Int.toNat_one, not_true_eq_false, false_or, or_self, Nat.reduceGT, Option.isSome_some, Bool.and_self, Nat.zero_add, Nat.mul_one, List.length_map, List.take_length, Int.cast_ofNat_Int, Int.reduceLE, Int.reduceLT, Int.reduceGE, Int.reduceGT, Int.reduceEq, Int.reduceNe, Int.le_refl, Nat.le_refl, Nat.reduceAdd, ne_eq, not_false_eq_true, reduceCtorEq, beq_true, beq_false, BEq.rfl, Bool.not_true, Bool.not_false, decide_true, decide_false, exists_prop, hj, hj0, hjn, map_at' RObj.av _ _ _ hjr, RObj.av, RObj.cs, decide_false, hrtg, hrf]
      intro b14 hb14
      have n14 : b11 ≠ b14 := by rintro rfl; have := hb14.1; simp [Hp.setBlk] at this
      have hb14n : hp1.blk b14 = none := by have := hb14.1; simpa [Hp.setBlk, Ne.symm n14] using this
      refine callX_by (words_calls h9 r.h ob.fs ob.fs _) ?_
      rintro r' hp3 ⟨rfl, rfl⟩
      have hweq : sameL eqW ob.fs ob.fs = true := (words_iff _ _).2 rfl
      simp only [go_sem, Int.natCast_nonneg, Nat.reduceEqDiff, Nat.reduceAdd, Nat.reduceSub, Nat.reduceLT, Nat.reduceMul, Nat.reduceBEq, Nat.reduceLeDiff, ↓reduceIte, Int.toNat_natCast, Int.reduceToNat, Int.toNat_zero, Int.toNat_one, not_true_eq_false, false_or, or_self, Nat.reduceGT, Option.isSome_some, Bool.and_self, Nat.zero_add, Nat.mul_one, List.length_map, List.take_length, Int.cast_ofNat_Int, Int.reduceLE, Int.reduceLT, Int.reduceGE, Int.reduceGT, Int.reduceEq, Int.reduceNe, Int.le_refl, Nat.le_refl, Nat.reduceAdd, ne_eq, not_false_eq_true, reduceCtorEq, beq_true, beq_false, BEq.rfl, Bool.not_true, Bool.not_false, decide_true, decide_false, exists_prop, hweq, n14, Ne.symm n14]
      have hfin : hp1.le ((hp1.setBlk b11 65 [.v (.bool w.ref), .v (.int .i64 w.n)]).setBlk b14 111 [.v (.int .i64 r.adr), .v (.int .i64 ob.tag), .lst 2 r.h (ob.fs.map WordG.av)]) := by
        refine ⟨fun i z hi => ?_, fun _ _ h => h, List.Sublist.refl _, fun _ h => h⟩
        have e1 : i ≠ b11 := by rintro rfl; have := hb11.1; rw [this] at hi; cases hi
        have e2 : i ≠ b14 := by rintro rfl; rw [hb14n] at hi; cases hi
        simpa [Hp.setBlk, e1, e2] using hi
      refine brK_mk (fun h5 => ?_) (fun h5 => ?_)
      · exfalso; simp at h5; omega
      · simp only [go_sem, Int.natCast_nonneg, Nat.reduceEqDiff, Nat.reduceAdd, Nat.reduceSub, Nat.reduceLT, Nat.reduceMul, Nat.reduceBEq, Nat.reduceLeDiff, ↓reduceIte, Int.toNat_natCast, Int.reduceToNat, Int.toNat_zero, Int.toNat_one, not_true_eq_false, false_or, or_self, Nat.reduceGT, Option.isSome_some, Bool.and_self, Nat.zero_add, Nat.mul_one, List.length_map, List.take_length, Int.cast_ofNat_Int, Int.reduceLE, Int.reduceLT, Int.reduceGE, Int.reduceGT, Int.reduceEq, Int.reduceNe, Int.le_refl, Nat.le_refl, Nat.reduceAdd, ne_eq, not_false_eq_true, reduceCtorEq, beq_true, beq_false, BEq.rfl, Bool.not_true, Bool.not_false, decide_true, decide_false, exists_prop, h5, n14, Ne.symm n14]
        refine brK_mk (fun h6 => ?_) (fun h6 => ?_)
        · exfalso; simp at h6; omega
        · simp only [go_sem, Int.natCast_nonneg, Nat.reduceEqDiff, Nat.reduceAdd, Nat.reduceSub, Nat.reduceLT, Nat.reduceMul, Nat.reduceBEq, Nat.reduceLeDiff, ↓reduceIte, Int.toNat_natCast, Int.reduceToNat, Int.toNat_zero, Int.toNat_one, not_true_eq_false, false_or, or_self, Nat.reduceGT, Option.isSome_some, Bool.and_self, Nat.zero_add, Nat.mul_one, List.length_map, List.take_length, Int.cast_ofNat_Int, Int.reduceLE, Int.reduceLT, Int.reduceGE, Int.reduceGT, Int.reduceEq, Int.reduceNe, Int.le_refl, Nat.le_refl, Nat.reduceAdd, ne_eq, not_false_eq_true, reduceCtorEq, beq_true, beq_false, BEq.rfl, Bool.not_true, Bool.not_false, decide_true, decide_false, exists_prop, h6, n14, Ne.symm n14]
          refine draw_by (mu := [11, 14]) (fun h => h.blk b11 = some (65, [.v (.bool w.ref), .v (.int .i64 w.n)]) ∧ h.blk b14 = some (111, [.v (.int .i64 r.adr), .v (.int .i64 ob.tag), .lst 2 r.h (ob.fs.map WordG.av)])) (.take 0 (.take 1 (.take 2 (.take 3 (.take 4 (.take 5 (.take 6 (.take 7 (.take 8 (.take 9 (.take 10 (.take 11 (.take 12 (.done)))))))))))))) (by decide +kernel) ⟨by simp only [go_sem, Int.natCast_nonneg, Nat.reduceEqDiff, Nat.reduceAdd, Nat.reduceSub, Nat.reduceLT, Nat.reduceMul, Nat.reduceBEq, Nat.reduceLeDiff, ↓reduceIte, Int.toNat_natCast, Int.reduceToNat, Int.toNat_zero, Int.toNat_one, not_true_eq_false, false_or, or_self, Nat.reduceGT, Option.isSome_some, Bool.and_self, Nat.zero_add, Nat.mul_one, List.length_map, List.take_length, Int.cast_ofNat_Int, Int.reduceLE, Int.reduceLT, Int.reduceGE, Int.reduceGT, Int.reduceEq, Int.reduceNe, Int.le_refl, Nat.le_refl, Nat.reduceAdd, ne_eq, not_false_eq_true, reduceCtorEq, beq_true, beq_false, BEq.rfl, Bool.not_true, Bool.not_false, decide_true, decide_false, exists_prop, n14], by simp only [go_sem, Int.natCast_nonneg, Nat.reduceEqDiff, Nat.reduceAdd, Nat.reduceSub, Nat.reduceLT, Nat.reduceMul, Nat.reduceBEq, Nat.reduceLeDiff, ↓reduceIte, Int.toNat_natCast, Int.reduceToNat, Int.toNat_zero, Int.toNat_one, not_true_eq_false, false_or, or_self, Nat.reduceGT, Option.isSome_some, Bool.and_self, Nat.zero_add, Nat.mul_one, List.length_map, List.take_length, Int.cast_ofNat_Int, Int.reduceLE, Int.reduceLT, Int.reduceGE, Int.reduceGT, Int.reduceEq, Int.reduceNe, Int.le_refl, Nat.le_refl, Nat.reduceAdd, ne_eq, not_false_eq_true, reduceCtorEq, beq_true, beq_false, BEq.rfl, Bool.not_true, Bool.not_false, decide_true, decide_false, exists_prop, n14]⟩ (by decide +kernel) (by decide +kernel) ?_
          have h0 : 0 ≤ o.i := hi2.1
          simp only [go_sem, Int.natCast_nonneg, Nat.reduceEqDiff, Nat.reduceAdd, Nat.reduceSub, Nat.reduceLT, Nat.reduceMul, Nat.reduceBEq, Nat.reduceLeDiff, ↓reduceIte, Int.toNat_natCast, Int.reduceToNat, Int.toNat_zero, Int.toNat_one, not_true_eq_false, false_or, or_self, Nat.reduceGT, Option.isSome_some, Bool.and_self, Nat.zero_add, Nat.mul_one, List.length_map, List.take_length, Int.cast_ofNat_Int, Int.reduceLE, Int.reduceLT, Int.reduceGE, Int.reduceGT, Int.reduceEq, Int.reduceNe, Int.le_refl, Nat.le_refl, Nat.reduceAdd, ne_eq, not_false_eq_true, reduceCtorEq, beq_true, beq_false, BEq.rfl, Bool.not_true, Bool.not_false, decide_true, decide_false, exists_prop, n14, map_at' WordG.av _ _ _ hw, WordG.av, WordG.cs, h0]
          refine ⟨fun h e => by rw [e.1]; simp only [go_sem, Int.natCast_nonneg, Nat.reduceEqDiff, Nat.reduceAdd, Nat.reduceSub, Nat.reduceLT, Nat.reduceMul, Nat.reduceBEq, Nat.reduceLeDiff, ↓reduceIte, Int.toNat_natCast, Int.reduceToNat, Int.toNat_zero, Int.toNat_one, not_true_eq_false, false_or, or_self, Nat.reduceGT, Option.isSome_some, Bool.and_self, Nat.zero_add, Nat.mul_one, List.length_map, List.take_length, Int.cast_ofNat_Int, Int.reduceLE, Int.reduceLT, Int.reduceGE, Int.reduceGT, Int.reduceEq, Int.reduceNe, Int.le_refl, Nat.le_refl, Nat.reduceAdd, ne_eq, not_false_eq_true, reduceCtorEq, beq_true, beq_false, BEq.rfl, Bool.not_true, Bool.not_false, decide_true, decide_false, exists_prop], fun h e => by rw [e.2]; simp only [go_sem, Int.natCast_nonneg, Nat.reduceEqDiff, Nat.reduceAdd, Nat.reduceSub, Nat.reduceLT, Nat.reduceMul, Nat.reduceBEq, Nat.reduceLeDiff, ↓reduceIte, Int.toNat_natCast, Int.reduceToNat, Int.toNat_zero, Int.toNat_one, not_true_eq_false, false_or, or_self, Nat.reduceGT, Option.isSome_some, Bool.and_self, Nat.zero_add, Nat.mul_one, List.length_map, List.take_length, Int.cast_ofNat_Int, Int.reduceLE, Int.reduceLT, Int.reduceGE, Int.reduceGT, Int.reduceEq, Int.reduceNe, Int.le_refl, Nat.le_refl, Nat.reduceAdd, ne_eq, not_false_eq_true, reduceCtorEq, beq_true, beq_false, BEq.rfl, Bool.not_true, Bool.not_false, decide_true, decide_false, exists_prop], ?_⟩
          exact ret_le hfin ⟨rfl, rfl⟩

theorem lcollect_calls (hblk : hp.blk hb = some (105, HeapV size hc hs ho (spOf G))) (hsp : hp.sp = spE hc hs ho l2) (hok : Okay size G) (hm0 : Value) {l : List RObj} (hm : MR G l) (o : OpG) (hw : o.ws.length ≤ 8796093022000) :
    ACalls Try.prog 61 [hptrAV hb, modelAV size hm0 l, o.av] hp (DoR size (if validL (spOf G).s o.ws = true then collG G o.ws else G) hb l2 hp) := by
  have hN := hok.n
  refine acalls_of Try.func61 rfl (by decide +kernel) (awp_sound (mu := [6, 10]) _ _ _ ?_)
  simp only [go_sem, Int.natCast_nonneg, Nat.reduceEqDiff, Nat.reduceAdd, Nat.reduceSub, Nat.reduceLT, Nat.reduceMul, Nat.reduceBEq, Nat.reduceLeDiff, ↓reduceIte, Int.toNat_natCast, Int.reduceToNat, Int.toNat_zero, Int.toNat_one, not_true_eq_false, false_or, or_self, Nat.reduceGT, Option.isSome_some, Bool.and_self, Nat.zero_add, Nat.mul_one, List.length_map, List.take_length, Int.cast_ofNat_Int, Int.reduceLE, Int.reduceLT, Int.reduceGE, Int.reduceGT, Int.reduceEq, Int.reduceNe, Int.le_refl, Nat.le_refl, Nat.reduceAdd, ne_eq, not_false_eq_true, reduceCtorEq, beq_true, beq_false, BEq.rfl, Bool.not_true, Bool.not_false, decide_true, decide_false, exists_prop, modelAV, OpG.av, OpG.cs, hptrAV, iv, wordsAV]
  intro pm po b6 hb6
  have n6 : b6 ≠ hb := by rintro rfl; rw [hb6.1] at hblk; cases hblk
  have hblk6 : (hp.setBlk b6 31 [.v (.int .i64 0), .v (.slice none 0 0)]).blk hb = some (105, HeapV size hc hs ho (spOf G)) := by rw [Hp.setBlk_blk, if_neg (Ne.symm n6)]; exact hblk
  refine callX_by (collect_calls (l2 := l2) hblk6 hsp o.h o.ws hok.wf (by omega) hw) ?_
  rintro r hp1 (⟨hv, rfl, rfl⟩ | ⟨hv, h', c, s, o', rfl, rfl⟩)
  · simp only [go_sem, Int.natCast_nonneg, Nat.reduceEqDiff, Nat.reduceAdd, Nat.reduceSub, Nat.reduceLT, Nat.reduceMul, Nat.reduceBEq, Nat.reduceLeDiff, ↓reduceIte, Int.toNat_natCast, Int.reduceToNat, Int.toNat_zero, Int.toNat_one, not_true_eq_false, false_or, or_self, Nat.reduceGT, Option.isSome_some, Bool.and_self, Nat.zero_add, Nat.mul_one, List.length_map, List.take_length, Int.cast_ofNat_Int, Int.reduceLE, Int.reduceLT, Int.reduceGE, Int.reduceGT, Int.reduceEq, Int.reduceNe, Int.le_refl, Nat.le_refl, Nat.reduceAdd, ne_eq, not_false_eq_true, reduceCtorEq, beq_true, beq_false, BEq.rfl, Bool.not_true, Bool.not_false, decide_true, decide_false, exists_prop, modelC, objsAV, iv, wordsAV]
    refine callX_by (rvalid_calls size hm0 o.h l o.ws _) ?_
    rintro r hp2 ⟨rfl, rfl⟩
    simp only [go_sem, Int.natCast_nonneg, Nat.reduceEqDiff, Nat.reduceAdd, Nat.reduceSub, Nat.reduceLT, Nat.reduceMul, Nat.reduceBEq, Nat.reduceLeDiff, ↓reduceIte, Int.toNat_natCast, Int.reduceToNat, Int.toNat_zero, Int.toNat_one, not_true_eq_false, false_or, or_self, Nat.reduceGT, Option.isSome_some, Bool.and_self, Nat.zero_add, Nat.mul_one, List.length_map, List.take_length, Int.cast_ofNat_Int, Int.reduceLE, Int.reduceLT, Int.reduceGE, Int.reduceGT, Int.reduceEq, Int.reduceNe, Int.le_refl, Nat.le_refl, Nat.reduceAdd, ne_eq, not_false_eq_true, reduceCtorEq, beq_true, beq_false, BEq.rfl, Bool.not_true, Bool.not_false, decide_true, decide_false, exists_prop, mr_valid hm, hv, modelC, objsAV, List.length_nil, n6]
    exact ret_le (hp' := hp) (le_fresh (l := hp.sp) hb6.1 rfl rfl (List.Sublist.refl _) rfl) ⟨hm0, l, hc, hs, ho, rfl, hm, (hhp_self hblk hsp).symm⟩
  · simp only [go_sem, Int.natCast_nonneg, Nat.reduceEqDiff, Nat.reduceAdd, Nat.reduceSub, Nat.reduceLT, Nat.reduceMul, Nat.reduceBEq, Nat.reduceLeDiff, ↓reduceIte, Int.toNat_natCast, Int.reduceToNat, Int.toNat_zero, Int.toNat_one, not_true_eq_false, false_or, or_self, Nat.reduceGT, Option.isSome_some, Bool.and_self, Nat.zero_add, Nat.mul_one, List.length_map, List.take_length, Int.cast_ofNat_Int, Int.reduceLE, Int.reduceLT, Int.reduceGE, Int.reduceGT, Int.reduceEq, Int.reduceNe, Int.le_refl, Nat.le_refl, Nat.reduceAdd, ne_eq, not_false_eq_true, reduceCtorEq, beq_true, beq_false, BEq.rfl, Bool.not_true, Bool.not_false, decide_true, decide_false, exists_prop, modelC, objsAV, iv, wordsAV]
    refine callX_by (rvalid_calls size hm0 o.h l o.ws _) ?_
    rintro r hp2 ⟨rfl, rfl⟩
    simp only [go_sem, Int.natCast_nonneg, Nat.reduceEqDiff, Nat.reduceAdd, Nat.reduceSub, Nat.reduceLT, Nat.reduceMul, Nat.reduceBEq, Nat.reduceLeDiff, ↓reduceIte, Int.toNat_natCast, Int.reduceToNat, Int.toNat_zero, Int.toNat_one, not_true_eq_false, false_or, or_self, Nat.reduceGT, Option.isSome_some, Bool.and_self, Nat.zero_add, Nat.mul_one, List.length_map, List.take_length, Int.cast_ofNat_Int, Int.reduceLE, Int.reduceLT, Int.reduceGE, Int.reduceGT, Int.reduceEq, Int.reduceNe, Int.le_refl, Nat.le_refl, Nat.reduceAdd, ne_eq, not_false_eq_true, reduceCtorEq, beq_true, beq_false, BEq.rfl, Bool.not_true, Bool.not_false, decide_true, decide_false, exists_prop, mr_valid hm, hv, modelC, objsAV]
    refine callX_by (rcollect_calls size hm0 o.h o.ws hm hok.wf ((valid_VW _).1 hv) (by omega) hw _) ?_
    rintro r hp2 ⟨⟨ho', l', h11, rfl, hm'⟩, rfl⟩
    simp only [go_sem, Int.natCast_nonneg, Nat.reduceEqDiff, Nat.reduceAdd, Nat.reduceSub, Nat.reduceLT, Nat.reduceMul, Nat.reduceBEq, Nat.reduceLeDiff, ↓reduceIte, Int.toNat_natCast, Int.reduceToNat, Int.toNat_zero, Int.toNat_one, not_true_eq_false, false_or, or_self, Nat.reduceGT, Option.isSome_some, Bool.and_self, Nat.zero_add, Nat.mul_one, List.length_map, List.take_length, Int.cast_ofNat_Int, Int.reduceLE, Int.reduceLT, Int.reduceGE, Int.reduceGT, Int.reduceEq, Int.reduceNe, Int.le_refl, Nat.le_refl, Nat.reduceAdd, ne_eq, not_false_eq_true, reduceCtorEq, beq_true, beq_false, BEq.rfl, Bool.not_true, Bool.not_false, decide_true, decide_false, exists_prop, modelAV, modelC, objsAV, wordsAV]
    intro b10 hb10
    have n610 : b6 ≠ b10 := by rintro rfl; have := hb10.1; simp [Hp.setBlk, Hp.setSp, n6] at this
    have n10 : b10 ≠ hb := by rintro rfl; have := hb10.1; simp [Hp.setBlk, Hp.setSp] at this
    have hb10n : hp.blk b10 = none := by have := hb10.1; simpa [Hp.setBlk, Hp.setSp, n10, Ne.symm n610] using this
    refine draw_by (mu := [6, 10]) (fun h => h.blk b10 = some (31, [.v (.int .i64 size), .lst 3 ho' (l'.map RObj.av)])) (.take 0 (.take 1 (.take 2 (.take 3 (.take 4 (.take 5 (.br 6 (.take 7 (.br 8 (.take 9 (.done)) (.stop))) (.stop)))))))) (by decide +kernel) (by simp only [go_sem, Int.natCast_nonneg, Nat.reduceEqDiff, Nat.reduceAdd, Nat.reduceSub, Nat.reduceLT, Nat.reduceMul, Nat.reduceBEq, Nat.reduceLeDiff, ↓reduceIte, Int.toNat_natCast, Int.reduceToNat, Int.toNat_zero, Int.toNat_one, not_true_eq_false, false_or, or_self, Nat.reduceGT, Option.isSome_some, Bool.and_self, Nat.zero_add, Nat.mul_one, List.length_map, List.take_length, Int.cast_ofNat_Int, Int.reduceLE, Int.reduceLT, Int.reduceGE, Int.reduceGT, Int.reduceEq, Int.reduceNe, Int.le_refl, Nat.le_refl, Nat.reduceAdd, ne_eq, not_false_eq_true, reduceCtorEq, beq_true, beq_false, BEq.rfl, Bool.not_true, Bool.not_false, decide_true, decide_false, exists_prop]) (by decide +kernel) (by decide +kernel) ?_
    simp only [go_sem, Int.natCast_nonneg, Nat.reduceEqDiff, Nat.reduceAdd, Nat.reduceSub, Nat.reduceLT, Nat.reduceMul, Nat.reduceBEq, Nat.reduceLeDiff, ↓reduceIte, Int.toNat_natCast, Int.reduceToNat, Int.toNat_zero, Int.toNat_one, not_true_eq_false, false_or, or_self, Nat.reduceGT, Option.isSome_some, Bool.and_self, Nat.zero_add, Nat.mul_one, List.length_map, List.take_length, Int.cast_ofNat_Int, Int.reduceLE, Int.reduceLT, Int.reduceGE, Int.reduceGT, Int.reduceEq, Int.reduceNe, Int.le_refl, Nat.le_refl, Nat.reduceAdd, ne_eq, not_false_eq_true, reduceCtorEq, beq_true, beq_false, BEq.rfl, Bool.not_true, Bool.not_false, decide_true, decide_false, exists_prop]
    refine ⟨fun h e => by rw [e]; simp only [go_sem, Int.natCast_nonneg, Nat.reduceEqDiff, Nat.reduceAdd, Nat.reduceSub, Nat.reduceLT, Nat.reduceMul, Nat.reduceBEq, Nat.reduceLeDiff, ↓reduceIte, Int.toNat_natCast, Int.reduceToNat, Int.toNat_zero, Int.toNat_one, not_true_eq_false, false_or, or_self, Nat.reduceGT, Option.isSome_some, Bool.and_self, Nat.zero_add, Nat.mul_one, List.length_map, List.take_length, Int.cast_ofNat_Int, Int.reduceLE, Int.reduceLT, Int.reduceGE, Int.reduceGT, Int.reduceEq, Int.reduceNe, Int.le_refl, Nat.le_refl, Nat.reduceAdd, ne_eq, not_false_eq_true, reduceCtorEq, beq_true, beq_false, BEq.rfl, Bool.not_true, Bool.not_false, decide_true, decide_false, exists_prop], ?_⟩
    refine callX_by (words_calls h' h11 (collR G o.ws) (collR G o.ws) _) ?_
    rintro r hp3 ⟨rfl, rfl⟩
    have hweq : sameL eqW (collR G o.ws) (collR G o.ws) = true := (words_iff _ _).2 rfl
    simp only [go_sem, Int.natCast_nonneg, Nat.reduceEqDiff, Nat.reduceAdd, Nat.reduceSub, Nat.reduceLT, Nat.reduceMul, Nat.reduceBEq, Nat.reduceLeDiff, ↓reduceIte, Int.toNat_natCast, Int.reduceToNat, Int.toNat_zero, Int.toNat_one, not_true_eq_false, false_or, or_self, Nat.reduceGT, Option.isSome_some, Bool.and_self, Nat.zero_add, Nat.mul_one, List.length_map, List.take_length, Int.cast_ofNat_Int, Int.reduceLE, Int.reduceLT, Int.reduceGE, Int.reduceGT, Int.reduceEq, Int.reduceNe, Int.le_refl, Nat.le_refl, Nat.reduceAdd, ne_eq, not_false_eq_true, reduceCtorEq, beq_true, beq_false, BEq.rfl, Bool.not_true, Bool.not_false, decide_true, decide_false, exists_prop, hweq, n610, Ne.symm n610, n6, Ne.symm n6, n10, Ne.symm n10]
    refine ret_le (hp' := HHp hp hb size c s o' (collG G o.ws) l2) ⟨fun i x hi => ?_, fun _ _ h => h, List.Sublist.refl _, fun _ h => h⟩ ⟨ho', l', c, s, o', rfl, hm', rfl⟩
    have e6 : i ≠ b6 := by rintro rfl; simp [HHp, Hp.setSp, Hp.setBlk, n6, hb6.1] at hi
    have e10 : i ≠ b10 := by rintro rfl; simp [HHp, Hp.setSp, Hp.setBlk, n10, hb10n] at hi
    simpa [HHp, Hp.setBlk, Hp.setSp, e6, e10] using hi

theorem ldo_calls (hblk : hp.blk hb = some (105, HeapV size hc hs ho (spOf G))) (hsp : hp.sp = spE hc hs ho l2) (hok : Okay size G) (hm0 : Value) {l : List RObj} (hm : MR G l) (o : OpG) (hw : o.ws.length ≤ 8796093022000) :
    ACalls Try.prog 17 [hptrAV hb, modelAV size hm0 l, o.av] hp (DoR size (stepG size G o) hb l2 hp) := by
  refine acalls_of Try.func17 rfl (by decide +kernel) (awp_sound (mu := [6]) _ _ _ ?_)
  simp only [go_sem, Int.natCast_nonneg, Nat.reduceEqDiff, Nat.reduceAdd, Nat.reduceSub, Nat.reduceLT, Nat.reduceMul, Nat.reduceBEq, Nat.reduceLeDiff, ↓reduceIte, Int.toNat_natCast, Int.reduceToNat, Int.toNat_zero, Int.toNat_one, not_true_eq_false, false_or, or_self, Nat.reduceGT, Option.isSome_some, Bool.and_self, Nat.zero_add, Nat.mul_one, List.length_map, List.take_length, Int.cast_ofNat_Int, Int.reduceLE, Int.reduceLT, Int.reduceGE, Int.reduceGT, Int.reduceEq, Int.reduceNe, Int.le_refl, Nat.le_refl, Nat.reduceAdd, ne_eq, not_false_eq_true, reduceCtorEq, beq_true, beq_false, BEq.rfl, Bool.not_true, Bool.not_false, decide_true, decide_false, exists_prop, modelAV, OpG.av, OpG.cs, hptrAV, iv, wordsAV]
  intro pm po b6 hb6
  have n6 : b6 ≠ hb := by rintro rfl; rw [hb6.1] at hblk; cases hblk
  have hblk6 : (hp.setBlk b6 31 [.v (.int .i64 0), .v (.slice none 0 0)]).blk hb = some (105, HeapV size hc hs ho (spOf G)) := by rw [Hp.setBlk_blk, if_neg (Ne.symm n6)]; exact hblk
  have hend : ∀ {c s o' ho' : Value} {l' : List RObj} {G' : List ObjG}, MR G' l' → ∃ hp' r, Gives ((HHp (hp.setBlk b6 31 [.v (.int .i64 0), .v (.slice none 0 0)]) hb size c s o' G' l2).setBlk b6 31 [.v (.int .i64 size), .lst 3 ho' (l'.map RObj.av)])
      (.tup [.agg [.v (.int .i64 size), .lst 3 ho' (l'.map RObj.av)], .v (.bool true)]) hp' r ∧ DoR size G' hb l2 hp r hp' := by
    intro c s o' ho' l' G' hm'
    refine ret_le (hp' := HHp hp hb size c s o' G' l2) ⟨fun i x hi => ?_, fun _ _ h => h, List.Sublist.refl _, fun _ h => h⟩ ⟨ho', l', c, s, o', rfl, hm', rfl⟩
    have e6 : i ≠ b6 := by rintro rfl; simp [HHp, Hp.setSp, Hp.setBlk, n6, hb6.1] at hi
    simpa [HHp, Hp.setBlk, Hp.setSp, e6] using hi
  refine brK_mk (fun h1 => ?_) (fun h1 => ?_) <;> simp only [go_sem, Int.natCast_nonneg, Nat.reduceEqDiff, Nat.reduceAdd, Nat.reduceSub, Nat.reduceLT, Nat.reduceMul, Nat.reduceBEq, Nat.reduceLeDiff, ↓reduceIte, Int.toNat_natCast, Int.reduceToNat, Int.toNat_zero, Int.toNat_one, not_true_eq_false, false_or, or_self, Nat.reduceGT, Option.isSome_some, Bool.and_self, Nat.zero_add, Nat.mul_one, List.length_map, List.take_length, Int.cast_ofNat_Int, Int.reduceLE, Int.reduceLT, Int.reduceGE, Int.reduceGT, Int.reduceEq, Int.reduceNe, Int.le_refl, Nat.le_refl, Nat.reduceAdd, ne_eq, not_false_eq_true, reduceCtorEq, beq_true, beq_false, BEq.rfl, Bool.not_true, Bool.not_false, decide_true, decide_false, exists_prop, modelC, objsAV, h1]
  · have e : stepG size G o = allocG size G o.a o.ws := by rw [stepG, if_pos (by simpa using h1)]
    rw [e]
    refine callX_by (lalloc_calls hblk6 hsp hok hm0 hm o) ?_
    rintro r hp1 ⟨ho', l', c, s, o', rfl, hm', rfl⟩
    simp only [go_sem, Int.natCast_nonneg, Nat.reduceEqDiff, Nat.reduceAdd, Nat.reduceSub, Nat.reduceLT, Nat.reduceMul, Nat.reduceBEq, Nat.reduceLeDiff, ↓reduceIte, Int.toNat_natCast, Int.reduceToNat, Int.toNat_zero, Int.toNat_one, not_true_eq_false, false_or, or_self, Nat.reduceGT, Option.isSome_some, Bool.and_self, Nat.zero_add, Nat.mul_one, List.length_map, List.take_length, Int.cast_ofNat_Int, Int.reduceLE, Int.reduceLT, Int.reduceGE, Int.reduceGT, Int.reduceEq, Int.reduceNe, Int.le_refl, Nat.le_refl, Nat.reduceAdd, ne_eq, not_false_eq_true, reduceCtorEq, beq_true, beq_false, BEq.rfl, Bool.not_true, Bool.not_false, decide_true, decide_false, exists_prop, modelAV, modelC, objsAV, HHp, n6, Ne.symm n6]
    exact hend hm'
  · have h1' : o.d ≠ 0 := by simpa using h1
    have hsame : ∃ hp' r, Gives (hp.setBlk b6 31 [.v (.int .i64 size), .lst 3 hm0 (l.map RObj.av)]) (.tup [.agg [.v (.int .i64 size), .lst 3 hm0 (l.map RObj.av)], .v (.bool true)]) hp' r ∧ DoR size G hb l2 hp r hp' :=
      ret_le (hp' := hp) (le_fresh (l := hp.sp) hb6.1 rfl rfl (List.Sublist.refl _) rfl) ⟨hm0, l, hc, hs, ho, rfl, hm, (hhp_self hblk hsp).symm⟩
    refine brK_mk (fun h2 => ?_) (fun h2 => ?_) <;> simp only [go_sem, Int.natCast_nonneg, Nat.reduceEqDiff, Nat.reduceAdd, Nat.reduceSub, Nat.reduceLT, Nat.reduceMul, Nat.reduceBEq, Nat.reduceLeDiff, ↓reduceIte, Int.toNat_natCast, Int.reduceToNat, Int.toNat_zero, Int.toNat_one, not_true_eq_false, false_or, or_self, Nat.reduceGT, Option.isSome_some, Bool.and_self, Nat.zero_add, Nat.mul_one, List.length_map, List.take_length, Int.cast_ofNat_Int, Int.reduceLE, Int.reduceLT, Int.reduceGE, Int.reduceGT, Int.reduceEq, Int.reduceNe, Int.le_refl, Nat.le_refl, Nat.reduceAdd, ne_eq, not_false_eq_true, reduceCtorEq, beq_true, beq_false, BEq.rfl, Bool.not_true, Bool.not_false, decide_true, decide_false, exists_prop, h2]
    · skip
      have e : stepG size G o = G := by rw [stepG, if_neg h1', if_neg (fun h => by have := h.1; simp at h2; omega)]
      rw [e]
      refine draw_by (mu := [6]) (fun _ => True) (.take 0 (.take 1 (.take 2 (.take 3 (.br 4 (.br 5 (.take 6 (.done)) (.stop)) (.stop)))))) (by decide +kernel) trivial (by decide +kernel) (by decide +kernel) ?_
      simp only [go_sem, Int.natCast_nonneg, Nat.reduceEqDiff, Nat.reduceAdd, Nat.reduceSub, Nat.reduceLT, Nat.reduceMul, Nat.reduceBEq, Nat.reduceLeDiff, ↓reduceIte, Int.toNat_natCast, Int.reduceToNat, Int.toNat_zero, Int.toNat_one, not_true_eq_false, false_or, or_self, Nat.reduceGT, Option.isSome_some, Bool.and_self, Nat.zero_add, Nat.mul_one, List.length_map, List.take_length, Int.cast_ofNat_Int, Int.reduceLE, Int.reduceLT, Int.reduceGE, Int.reduceGT, Int.reduceEq, Int.reduceNe, Int.le_refl, Nat.le_refl, Nat.reduceAdd, ne_eq, not_false_eq_true, reduceCtorEq, beq_true, beq_false, BEq.rfl, Bool.not_true, Bool.not_false, decide_true, decide_false, exists_prop]
      refine callX_by (llook_calls hblk6 hok hm0 hm o) ?_
      rintro r hp1 ⟨rfl, rfl⟩
      simp only [go_sem, Int.natCast_nonneg, Nat.reduceEqDiff, Nat.reduceAdd, Nat.reduceSub, Nat.reduceLT, Nat.reduceMul, Nat.reduceBEq, Nat.reduceLeDiff, ↓reduceIte, Int.toNat_natCast, Int.reduceToNat, Int.toNat_zero, Int.toNat_one, not_true_eq_false, false_or, or_self, Nat.reduceGT, Option.isSome_some, Bool.and_self, Nat.zero_add, Nat.mul_one, List.length_map, List.take_length, Int.cast_ofNat_Int, Int.reduceLE, Int.reduceLT, Int.reduceGE, Int.reduceGT, Int.reduceEq, Int.reduceNe, Int.le_refl, Nat.le_refl, Nat.reduceAdd, ne_eq, not_false_eq_true, reduceCtorEq, beq_true, beq_false, BEq.rfl, Bool.not_true, Bool.not_false, decide_true, decide_false, exists_prop]
      exact hsame
    · refine brK_mk (fun h3 => ?_) (fun h3 => ?_) <;> simp only [go_sem, Int.natCast_nonneg, Nat.reduceEqDiff, Nat.reduceAdd, Nat.reduceSub, Nat.reduceLT, Nat.reduceMul, Nat.reduceBEq, Nat.reduceLeDiff, ↓reduceIte, Int.toNat_natCast, Int.reduceToNat, Int.toNat_zero, Int.toNat_one, not_true_eq_false, false_or, or_self, Nat.reduceGT, Option.isSome_some, Bool.and_self, Nat.zero_add, Nat.mul_one, List.length_map, List.take_length, Int.cast_ofNat_Int, Int.reduceLE, Int.reduceLT, Int.reduceGE, Int.reduceGT, Int.reduceEq, Int.reduceNe, Int.le_refl, Nat.le_refl, Nat.reduceAdd, ne_eq, not_false_eq_true, reduceCtorEq, beq_true, beq_false, BEq.rfl, Bool.not_true, Bool.not_false, decide_true, decide_false, exists_prop, h3]
      · skip
        have e : stepG size G o = G := by rw [stepG, if_neg h1', if_neg (fun h => by have := h.1; simp at h3; omega)]
        rw [e]
        refine draw_by (mu := [6]) (fun _ => True) (.take 0 (.take 1 (.take 2 (.take 3 (.br 4 (.br 5 (.take 6 (.done)) (.stop)) (.stop)))))) (by decide +kernel) trivial (by decide +kernel) (by decide +kernel) ?_
        simp only [go_sem, Int.natCast_nonneg, Nat.reduceEqDiff, Nat.reduceAdd, Nat.reduceSub, Nat.reduceLT, Nat.reduceMul, Nat.reduceBEq, Nat.reduceLeDiff, ↓reduceIte, Int.toNat_natCast, Int.reduceToNat, Int.toNat_zero, Int.toNat_one, not_true_eq_false, false_or, or_self, Nat.reduceGT, Option.isSome_some, Bool.and_self, Nat.zero_add, Nat.mul_one, List.length_map, List.take_length, Int.cast_ofNat_Int, Int.reduceLE, Int.reduceLT, Int.reduceGE, Int.reduceGT, Int.reduceEq, Int.reduceNe, Int.le_refl, Nat.le_refl, Nat.reduceAdd, ne_eq, not_false_eq_true, reduceCtorEq, beq_true, beq_false, BEq.rfl, Bool.not_true, Bool.not_false, decide_true, decide_false, exists_prop]
        refine callX_by (llook_calls hblk6 hok hm0 hm o) ?_
        rintro r hp1 ⟨rfl, rfl⟩
        simp only [go_sem, Int.natCast_nonneg, Nat.reduceEqDiff, Nat.reduceAdd, Nat.reduceSub, Nat.reduceLT, Nat.reduceMul, Nat.reduceBEq, Nat.reduceLeDiff, ↓reduceIte, Int.toNat_natCast, Int.reduceToNat, Int.toNat_zero, Int.toNat_one, not_true_eq_false, false_or, or_self, Nat.reduceGT, Option.isSome_some, Bool.and_self, Nat.zero_add, Nat.mul_one, List.length_map, List.take_length, Int.cast_ofNat_Int, Int.reduceLE, Int.reduceLT, Int.reduceGE, Int.reduceGT, Int.reduceEq, Int.reduceNe, Int.le_refl, Nat.le_refl, Nat.reduceAdd, ne_eq, not_false_eq_true, reduceCtorEq, beq_true, beq_false, BEq.rfl, Bool.not_true, Bool.not_false, decide_true, decide_false, exists_prop]
        exact hsame
      · refine brK_mk (fun h4 => ?_) (fun h4 => ?_) <;> simp only [go_sem, Int.natCast_nonneg, Nat.reduceEqDiff, Nat.reduceAdd, Nat.reduceSub, Nat.reduceLT, Nat.reduceMul, Nat.reduceBEq, Nat.reduceLeDiff, ↓reduceIte, Int.toNat_natCast, Int.reduceToNat, Int.toNat_zero, Int.toNat_one, not_true_eq_false, false_or, or_self, Nat.reduceGT, Option.isSome_some, Bool.and_self, Nat.zero_add, Nat.mul_one, List.length_map, List.take_length, Int.cast_ofNat_Int, Int.reduceLE, Int.reduceLT, Int.reduceGE, Int.reduceGT, Int.reduceEq, Int.reduceNe, Int.le_refl, Nat.le_refl, Nat.reduceAdd, ne_eq, not_false_eq_true, reduceCtorEq, beq_true, beq_false, BEq.rfl, Bool.not_true, Bool.not_false, decide_true, decide_false, exists_prop, h4]
        · skip
          have e : stepG size G o = G := by rw [stepG, if_neg h1', if_neg (fun h => by have := h.1; simp at h4; omega)]
          rw [e]
          refine draw_by (mu := [6]) (fun _ => True) (.take 0 (.take 1 (.take 2 (.take 3 (.br 4 (.br 5 (.take 6 (.done)) (.stop)) (.stop)))))) (by decide +kernel) trivial (by decide +kernel) (by decide +kernel) ?_
          simp only [go_sem, Int.natCast_nonneg, Nat.reduceEqDiff, Nat.reduceAdd, Nat.reduceSub, Nat.reduceLT, Nat.reduceMul, Nat.reduceBEq, Nat.reduceLeDiff, ↓reduceIte, Int.toNat_natCast, Int.reduceToNat, Int.toNat_zero, Int.toNat_one, not_true_eq_false, false_or, or_self, Nat.reduceGT, Option.isSome_some, Bool.and_self, Nat.zero_add, Nat.mul_one, List.length_map, List.take_length, Int.cast_ofNat_Int, Int.reduceLE, Int.reduceLT, Int.reduceGE, Int.reduceGT, Int.reduceEq, Int.reduceNe, Int.le_refl, Nat.le_refl, Nat.reduceAdd, ne_eq, not_false_eq_true, reduceCtorEq, beq_true, beq_false, BEq.rfl, Bool.not_true, Bool.not_false, decide_true, decide_false, exists_prop]
          refine callX_by (llook_calls hblk6 hok hm0 hm o) ?_
          rintro r hp1 ⟨rfl, rfl⟩
          simp only [go_sem, Int.natCast_nonneg, Nat.reduceEqDiff, Nat.reduceAdd, Nat.reduceSub, Nat.reduceLT, Nat.reduceMul, Nat.reduceBEq, Nat.reduceLeDiff, ↓reduceIte, Int.toNat_natCast, Int.reduceToNat, Int.toNat_zero, Int.toNat_one, not_true_eq_false, false_or, or_self, Nat.reduceGT, Option.isSome_some, Bool.and_self, Nat.zero_add, Nat.mul_one, List.length_map, List.take_length, Int.cast_ofNat_Int, Int.reduceLE, Int.reduceLT, Int.reduceGE, Int.reduceGT, Int.reduceEq, Int.reduceNe, Int.le_refl, Nat.le_refl, Nat.reduceAdd, ne_eq, not_false_eq_true, reduceCtorEq, beq_true, beq_false, BEq.rfl, Bool.not_true, Bool.not_false, decide_true, decide_false, exists_prop]
          exact hsame
        · refine brK_mk (fun h5 => ?_) (fun h5 => ?_) <;> simp only [go_sem, Int.natCast_nonneg, Nat.reduceEqDiff, Nat.reduceAdd, Nat.reduceSub, Nat.reduceLT, Nat.reduceMul, Nat.reduceBEq, Nat.reduceLeDiff, ↓reduceIte, Int.toNat_natCast, Int.reduceToNat, Int.toNat_zero, Int.toNat_one, not_true_eq_false, false_or, or_self, Nat.reduceGT, Option.isSome_some, Bool.and_self, Nat.zero_add, Nat.mul_one, List.length_map, List.take_length, Int.cast_ofNat_Int, Int.reduceLE, Int.reduceLT, Int.reduceGE, Int.reduceGT, Int.reduceEq, Int.reduceNe, Int.le_refl, Nat.le_refl, Nat.reduceAdd, ne_eq, not_false_eq_true, reduceCtorEq, beq_true, beq_false, BEq.rfl, Bool.not_true, Bool.not_false, decide_true, decide_false, exists_prop, h5]
          · have e : stepG size G o = if validL (spOf G).s o.ws = true then collG G o.ws else G := by
              have h5' : o.d = 4 := by simpa using h5
              rw [stepG, if_neg h1']
              by_cases hv : validL (spOf G).s o.ws = true
              · rw [if_pos ⟨h5', hv⟩, if_pos hv]
              · rw [if_neg (fun h => hv h.2), if_neg hv]
            rw [e]
            refine callX_by (lcollect_calls hblk6 hsp hok hm0 hm o hw) ?_
            rintro r hp1 ⟨ho', l', c, s, o', rfl, hm', rfl⟩
            simp only [go_sem, Int.natCast_nonneg, Nat.reduceEqDiff, Nat.reduceAdd, Nat.reduceSub, Nat.reduceLT, Nat.reduceMul, Nat.reduceBEq, Nat.reduceLeDiff, ↓reduceIte, Int.toNat_natCast, Int.reduceToNat, Int.toNat_zero, Int.toNat_one, not_true_eq_false, false_or, or_self, Nat.reduceGT, Option.isSome_some, Bool.and_self, Nat.zero_add, Nat.mul_one, List.length_map, List.take_length, Int.cast_ofNat_Int, Int.reduceLE, Int.reduceLT, Int.reduceGE, Int.reduceGT, Int.reduceEq, Int.reduceNe, Int.le_refl, Nat.le_refl, Nat.reduceAdd, ne_eq, not_false_eq_true, reduceCtorEq, beq_true, beq_false, BEq.rfl, Bool.not_true, Bool.not_false, decide_true, decide_false, exists_prop, modelAV, modelC, objsAV, HHp, n6, Ne.symm n6]
            exact hend hm'
          · have e : stepG size G o = G := by rw [stepG, if_neg h1', if_neg (fun h => by have := h.1; simp at h5; omega)]
            rw [e]
            exact hsame
end
end Go.Proofs.Ytfdlfcafcjhpmaa
