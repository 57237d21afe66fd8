/- The reference for heaps: pairs and Same. -/
import Derived.Test.YtfdlfcafcjhpmaaCH29
set_option linter.unusedSimpArgs false
set_option linter.unusedVariables false
set_option maxRecDepth 20000
set_option maxHeartbeats 4000000
namespace Go.Proofs.Ytfdlfcafcjhpmaa
open Go.AL

theorem pairs_calls (ha hx hb hy : Value) (a b : List WordG) (X Y : List Int) (hp : Hp) : ACalls Try.prog 68 [wordsAV ha a, intsAV hx X, wordsAV hb b, intsAV hy Y] hp (fun r hp' => r = .v (.bool (sameL (pairW X Y) a b)) ∧ hp' = hp) := by
  refine acalls_fit (callable_of Try.func68 (by decide +kernel)) fun hfit => ?_
  have hl : a.length ≤ maxLen := by have := hfit.1; simp only [wordsAV, AV.fit, List.length_map] at this; exact this.1
  refine acalls_of Try.func68 rfl (by decide +kernel) (awp_sound (mu := []) _ _ _ ?_)
  simp only [go_sem, Int.natCast_nonneg, Nat.reduceEqDiff, Nat.reduceAdd, Nat.reduceSub, Nat.reduceLT, Nat.reduceMul, Nat.reduceBEq, Nat.reduceLeDiff, ↓reduceIte, Int.toNat_natCast, Int.reduceToNat, Int.toNat_zero, Int.toNat_one, not_true_eq_false, false_or, or_self, Nat.reduceGT, Option.isSome_some, Bool.and_self, Nat.zero_add, Nat.mul_one, List.length_map, List.take_length, Int.cast_ofNat_Int, Int.reduceLE, Int.reduceLT, Int.reduceGE, Int.reduceGT, Int.reduceEq, Int.reduceNe, Int.le_refl, Nat.le_refl, Nat.reduceAdd, ne_eq, not_false_eq_true, reduceCtorEq, beq_true, beq_false, BEq.rfl, Bool.not_true, Bool.not_false, decide_true, decide_false, exists_prop, wordsAV]
  refine brK_mk (fun h1 => ?_) (fun h1 => ?_) <;> simp only [go_sem, Int.natCast_nonneg, Nat.reduceEqDiff, Nat.reduceAdd, Nat.reduceSub, Nat.reduceLT, Nat.reduceMul, Nat.reduceBEq, Nat.reduceLeDiff, ↓reduceIte, Int.toNat_natCast, Int.reduceToNat, Int.toNat_zero, Int.toNat_one, not_true_eq_false, false_or, or_self, Nat.reduceGT, Option.isSome_some, Bool.and_self, Nat.zero_add, Nat.mul_one, List.length_map, List.take_length, Int.cast_ofNat_Int, Int.reduceLE, Int.reduceLT, Int.reduceGE, Int.reduceGT, Int.reduceEq, Int.reduceNe, Int.le_refl, Nat.le_refl, Nat.reduceAdd, ne_eq, not_false_eq_true, reduceCtorEq, beq_true, beq_false, BEq.rfl, Bool.not_true, Bool.not_false, decide_true, decide_false, exists_prop, h1]
  · have hlen : a.length = b.length := by simp at h1; omega
    refine aw_loopX 77 (fun k : Nat => [(0, .lst 2 ha (a.map WordG.av)), (1, intsAV hx X), (2, .lst 2 hb (b.map WordG.av)), (3, intsAV hy Y), (16, .v (.int .i64 a.length)), (17, .v (.int .i64 k))])
      (fun _ => hp) (fun k => k ≤ a.length ∧ sameL (pairW X Y) (a.drop k) (b.drop k) = sameL (pairW X Y) a b) (fun k => a.length - k) 0
      ⟨Nat.zero_le _, rfl⟩ (le_mkSl rfl (Hp.le_refl _) (by simp [go_sem])) ?_
    rintro k ⟨hk, hall⟩
    refine awp_sound (mu := []) _ _ _ ?_
    simp only [go_sem, Int.natCast_nonneg, Nat.reduceEqDiff, Nat.reduceAdd, Nat.reduceSub, Nat.reduceLT, Nat.reduceMul, Nat.reduceBEq, Nat.reduceLeDiff, ↓reduceIte, Int.toNat_natCast, Int.reduceToNat, Int.toNat_zero, Int.toNat_one, not_true_eq_false, false_or, or_self, Nat.reduceGT, Option.isSome_some, Bool.and_self, Nat.zero_add, Nat.mul_one, List.length_map, List.take_length, Int.cast_ofNat_Int, Int.reduceLE, Int.reduceLT, Int.reduceGE, Int.reduceGT, Int.reduceEq, Int.reduceNe, Int.le_refl, Nat.le_refl, Nat.reduceAdd, ne_eq, not_false_eq_true, reduceCtorEq, beq_true, beq_false, BEq.rfl, Bool.not_true, Bool.not_false, decide_true, decide_false, exists_prop]
    refine brK_mk (fun h => ?_) (fun h => ?_) <;> simp only [go_sem, Int.natCast_nonneg, Nat.reduceEqDiff, Nat.reduceAdd, Nat.reduceSub, Nat.reduceLT, Nat.reduceMul, Nat.reduceBEq, Nat.reduceLeDiff, ↓reduceIte, Int.toNat_natCast, Int.reduceToNat, Int.toNat_zero, Int.toNat_one, not_true_eq_false, false_or, or_self, Nat.reduceGT, Option.isSome_some, Bool.and_self, Nat.zero_add, Nat.mul_one, List.length_map, List.take_length, Int.cast_ofNat_Int, Int.reduceLE, Int.reduceLT, Int.reduceGE, Int.reduceGT, Int.reduceEq, Int.reduceNe, Int.le_refl, Nat.le_refl, Nat.reduceAdd, ne_eq, not_false_eq_true, reduceCtorEq, beq_true, beq_false, BEq.rfl, Bool.not_true, Bool.not_false, decide_true, decide_false, exists_prop, h]
    · have hk' : k < a.length := by simpa using h
      obtain ⟨x, hx⟩ := some_at' a k hk'
      obtain ⟨y, hy⟩ := some_at' b k (by omega)
      rw [dropAt hx, dropAt hy, sameL] at hall
      have hwu := upW k _ hk' hl
      refine draw_by (mu := []) (fun _ => True) (.take 0 (.take 1 (.take 2 (.take 3 (.take 4 (.take 5 (.take 6 (.take 7 (.take 8 (.take 9 (.take 10 (.take 11 (.take 12 (.take 13 (.take 14 (.take 15 (.take 16 (.take 17 (.take 18 (.take 19 (.take 20 (.take 21 (.take 22 (.take 23 (.take 24 (.take 25 (.take 26 (.take 27 (.take 28 (.take 29 (.take 30 (.take 31 (.take 32 (.take 33 (.take 34 (.take 35 (.take 36 (.take 37 (.take 38 (.take 39 (.take 40 (.take 41 (.take 42 (.take 43 (.take 44 (.take 46 (.take 47 (.take 48 (.take 49 (.take 50 (.take 51 (.br 45 (.br 52 (.take 53 (.take 54 (.take 55 (.done)))) (.stop)) (.stop))))))))))))))))))))))))))))))))))))))))))))))))))))) (by decide +kernel) trivial (by decide +kernel) (by decide +kernel) ?_
      obtain ⟨xr, xn⟩ := x
      obtain ⟨yr, yn⟩ := y
      cases xr <;> cases yr
      · have e0 : pairW X Y ⟨false, xn⟩ ⟨false, yn⟩ = decide (xn = yn) := by simp [pairW]
        simp only [go_sem, Int.natCast_nonneg, Nat.reduceEqDiff, Nat.reduceAdd, Nat.reduceSub, Nat.reduceLT, Nat.reduceMul, Nat.reduceBEq, Nat.reduceLeDiff, ↓reduceIte, Int.toNat_natCast, Int.reduceToNat, Int.toNat_zero, Int.toNat_one, not_true_eq_false, false_or, or_self, Nat.reduceGT, Option.isSome_some, Bool.and_self, Nat.zero_add, Nat.mul_one, List.length_map, List.take_length, Int.cast_ofNat_Int, Int.reduceLE, Int.reduceLT, Int.reduceGE, Int.reduceGT, Int.reduceEq, Int.reduceNe, Int.le_refl, Nat.le_refl, Nat.reduceAdd, ne_eq, not_false_eq_true, reduceCtorEq, beq_true, beq_false, BEq.rfl, Bool.not_true, Bool.not_false, decide_true, decide_false, exists_prop, map_at' WordG.av _ _ _ hx, map_at' WordG.av _ _ _ hy, WordG.av, WordG.cs]
        refine brK_mk (fun h2 => ?_) (fun h2 => ?_) <;> simp only [go_sem, Int.natCast_nonneg, Nat.reduceEqDiff, Nat.reduceAdd, Nat.reduceSub, Nat.reduceLT, Nat.reduceMul, Nat.reduceBEq, Nat.reduceLeDiff, ↓reduceIte, Int.toNat_natCast, Int.reduceToNat, Int.toNat_zero, Int.toNat_one, not_true_eq_false, false_or, or_self, Nat.reduceGT, Option.isSome_some, Bool.and_self, Nat.zero_add, Nat.mul_one, List.length_map, List.take_length, Int.cast_ofNat_Int, Int.reduceLE, Int.reduceLT, Int.reduceGE, Int.reduceGT, Int.reduceEq, Int.reduceNe, Int.le_refl, Nat.le_refl, Nat.reduceAdd, ne_eq, not_false_eq_true, reduceCtorEq, beq_true, beq_false, BEq.rfl, Bool.not_true, Bool.not_false, decide_true, decide_false, exists_prop, h2, map_at' WordG.av _ _ _ hx, map_at' WordG.av _ _ _ hy, WordG.av, WordG.cs]
        · rw [h2] at e0
          refine ⟨k + 1, by omega, ⟨by omega, by rw [← hall, e0]; rfl⟩, le_mkSl rfl (Hp.le_refl _) ?_⟩
          simp [go_sem, upW k _ hk' hl]
        · rw [h2] at e0
          exact ret_same ⟨by rw [← hall, e0]; rfl, rfl⟩
      · have e0 : pairW X Y ⟨false, xn⟩ ⟨true, yn⟩ = false := by simp [pairW]
        simp only [go_sem, Int.natCast_nonneg, Nat.reduceEqDiff, Nat.reduceAdd, Nat.reduceSub, Nat.reduceLT, Nat.reduceMul, Nat.reduceBEq, Nat.reduceLeDiff, ↓reduceIte, Int.toNat_natCast, Int.reduceToNat, Int.toNat_zero, Int.toNat_one, not_true_eq_false, false_or, or_self, Nat.reduceGT, Option.isSome_some, Bool.and_self, Nat.zero_add, Nat.mul_one, List.length_map, List.take_length, Int.cast_ofNat_Int, Int.reduceLE, Int.reduceLT, Int.reduceGE, Int.reduceGT, Int.reduceEq, Int.reduceNe, Int.le_refl, Nat.le_refl, Nat.reduceAdd, ne_eq, not_false_eq_true, reduceCtorEq, beq_true, beq_false, BEq.rfl, Bool.not_true, Bool.not_false, decide_true, decide_false, exists_prop, map_at' WordG.av _ _ _ hx, map_at' WordG.av _ _ _ hy, WordG.av, WordG.cs]
        exact ret_same ⟨by rw [← hall, e0]; rfl, rfl⟩
      · have e0 : pairW X Y ⟨true, xn⟩ ⟨false, yn⟩ = false := by simp [pairW]
        simp only [go_sem, Int.natCast_nonneg, Nat.reduceEqDiff, Nat.reduceAdd, Nat.reduceSub, Nat.reduceLT, Nat.reduceMul, Nat.reduceBEq, Nat.reduceLeDiff, ↓reduceIte, Int.toNat_natCast, Int.reduceToNat, Int.toNat_zero, Int.toNat_one, not_true_eq_false, false_or, or_self, Nat.reduceGT, Option.isSome_some, Bool.and_self, Nat.zero_add, Nat.mul_one, List.length_map, List.take_length, Int.cast_ofNat_Int, Int.reduceLE, Int.reduceLT, Int.reduceGE, Int.reduceGT, Int.reduceEq, Int.reduceNe, Int.le_refl, Nat.le_refl, Nat.reduceAdd, ne_eq, not_false_eq_true, reduceCtorEq, beq_true, beq_false, BEq.rfl, Bool.not_true, Bool.not_false, decide_true, decide_false, exists_prop, map_at' WordG.av _ _ _ hx, map_at' WordG.av _ _ _ hy, WordG.av, WordG.cs]
        exact ret_same ⟨by rw [← hall, e0]; rfl, rfl⟩
      · have e0 : pairW X Y ⟨true, xn⟩ ⟨true, yn⟩ = decide (placeL X xn 0 = placeL Y yn 0) := by simp [pairW]
        simp only [go_sem, Int.natCast_nonneg, Nat.reduceEqDiff, Nat.reduceAdd, Nat.reduceSub, Nat.reduceLT, Nat.reduceMul, Nat.reduceBEq, Nat.reduceLeDiff, ↓reduceIte, Int.toNat_natCast, Int.reduceToNat, Int.toNat_zero, Int.toNat_one, not_true_eq_false, false_or, or_self, Nat.reduceGT, Option.isSome_some, Bool.and_self, Nat.zero_add, Nat.mul_one, List.length_map, List.take_length, Int.cast_ofNat_Int, Int.reduceLE, Int.reduceLT, Int.reduceGE, Int.reduceGT, Int.reduceEq, Int.reduceNe, Int.le_refl, Nat.le_refl, Nat.reduceAdd, ne_eq, not_false_eq_true, reduceCtorEq, beq_true, beq_false, BEq.rfl, Bool.not_true, Bool.not_false, decide_true, decide_false, exists_prop, map_at' WordG.av _ _ _ hx, map_at' WordG.av _ _ _ hy, WordG.av, WordG.cs]
        refine callX_by (place_calls _ X xn _) ?_
        rintro r hp1 ⟨rfl, rfl⟩
        simp only [go_sem, Int.natCast_nonneg, Nat.reduceEqDiff, Nat.reduceAdd, Nat.reduceSub, Nat.reduceLT, Nat.reduceMul, Nat.reduceBEq, Nat.reduceLeDiff, ↓reduceIte, Int.toNat_natCast, Int.reduceToNat, Int.toNat_zero, Int.toNat_one, not_true_eq_false, false_or, or_self, Nat.reduceGT, Option.isSome_some, Bool.and_self, Nat.zero_add, Nat.mul_one, List.length_map, List.take_length, Int.cast_ofNat_Int, Int.reduceLE, Int.reduceLT, Int.reduceGE, Int.reduceGT, Int.reduceEq, Int.reduceNe, Int.le_refl, Nat.le_refl, Nat.reduceAdd, ne_eq, not_false_eq_true, reduceCtorEq, beq_true, beq_false, BEq.rfl, Bool.not_true, Bool.not_false, decide_true, decide_false, exists_prop]
        refine callX_by (place_calls _ Y yn _) ?_
        rintro r hp1 ⟨rfl, rfl⟩
        simp only [go_sem, Int.natCast_nonneg, Nat.reduceEqDiff, Nat.reduceAdd, Nat.reduceSub, Nat.reduceLT, Nat.reduceMul, Nat.reduceBEq, Nat.reduceLeDiff, ↓reduceIte, Int.toNat_natCast, Int.reduceToNat, Int.toNat_zero, Int.toNat_one, not_true_eq_false, false_or, or_self, Nat.reduceGT, Option.isSome_some, Bool.and_self, Nat.zero_add, Nat.mul_one, List.length_map, List.take_length, Int.cast_ofNat_Int, Int.reduceLE, Int.reduceLT, Int.reduceGE, Int.reduceGT, Int.reduceEq, Int.reduceNe, Int.le_refl, Nat.le_refl, Nat.reduceAdd, ne_eq, not_false_eq_true, reduceCtorEq, beq_true, beq_false, BEq.rfl, Bool.not_true, Bool.not_false, decide_true, decide_false, exists_prop]
        refine brK_mk (fun h2 => ?_) (fun h2 => ?_) <;> simp only [go_sem, Int.natCast_nonneg, Nat.reduceEqDiff, Nat.reduceAdd, Nat.reduceSub, Nat.reduceLT, Nat.reduceMul, Nat.reduceBEq, Nat.reduceLeDiff, ↓reduceIte, Int.toNat_natCast, Int.reduceToNat, Int.toNat_zero, Int.toNat_one, not_true_eq_false, false_or, or_self, Nat.reduceGT, Option.isSome_some, Bool.and_self, Nat.zero_add, Nat.mul_one, List.length_map, List.take_length, Int.cast_ofNat_Int, Int.reduceLE, Int.reduceLT, Int.reduceGE, Int.reduceGT, Int.reduceEq, Int.reduceNe, Int.le_refl, Nat.le_refl, Nat.reduceAdd, ne_eq, not_false_eq_true, reduceCtorEq, beq_true, beq_false, BEq.rfl, Bool.not_true, Bool.not_false, decide_true, decide_false, exists_prop, h2]
        · rw [h2] at e0
          refine ⟨k + 1, by omega, ⟨by omega, by rw [← hall, e0]; rfl⟩, le_mkSl rfl (Hp.le_refl _) ?_⟩
          simp [go_sem, upW k _ hk' hl]
        · rw [h2] at e0
          exact ret_same ⟨by rw [← hall, e0]; rfl, rfl⟩
    · have e : a.length ≤ k := by simp at h; omega
      rw [List.drop_of_length_le e, List.drop_of_length_le (hlen ▸ e)] at hall
      exact ret_same ⟨by rw [← hall]; rfl, rfl⟩
  · have hlen : a.length ≠ b.length := by simp at h1; omega
    exact ret_same ⟨by rw [sameL_len _ _ _ hlen], rfl⟩
end Go.Proofs.Ytfdlfcafcjhpmaa
/- The reference for heaps: Same. -/
set_option linter.unusedSimpArgs false
set_option linter.unusedVariables false
set_option maxRecDepth 20000
set_option maxHeartbeats 4000000
namespace Go.Proofs.Ytfdlfcafcjhpmaa
open Go.AL

theorem rsame_calls (s1 s2 : Int) (ho1 ho2 ha hb : Value) {G H : List ObjG} {l1 l2 : List RObj} (a b : List WordG) (m1 : MR G l1) (m2 : MR H l2) (wf1 : Wf G) (wf2 : Wf H) (va : VW G a) (vb : VW H b) (N1 : endO G ≤ 2097152) (N2 : endO H ≤ 2097152) (hal : a.length ≤ 8796093022000) (hbl : b.length ≤ 8796093022000) (hp : Hp) :
    ACalls Try.prog 28 [modelAV s1 ho1 l1, wordsAV ha a, modelAV s2 ho2 l2, wordsAV hb b] hp (fun r hp' => r = .v (.bool (isoG G a H b)) ∧ hp' = hp) := by
  obtain ⟨okX, -, -⟩ := reach_ok wf1 va
  obtain ⟨okY, -, -⟩ := reach_ok wf2 vb
  have hGl := len_endO G
  have hHl := len_endO H
  have hXG := lok_len okX
  refine acalls_of Try.func28 rfl (by decide +kernel) (awp_sound (mu := [12, 13]) _ _ _ ?_)
  simp only [go_sem, Int.natCast_nonneg, Nat.reduceEqDiff, Nat.reduceAdd, Nat.reduceSub, Nat.reduceLT, Nat.reduceMul, Nat.reduceBEq, Nat.reduceLeDiff, ↓reduceIte, Int.toNat_natCast, Int.reduceToNat, Int.toNat_zero, Int.toNat_one, not_true_eq_false, false_or, or_self, Nat.reduceGT, Option.isSome_some, Bool.and_self, Nat.zero_add, Nat.mul_one, List.length_map, List.take_length, Int.cast_ofNat_Int, Int.reduceLE, Int.reduceLT, Int.reduceGE, Int.reduceGT, Int.reduceEq, Int.reduceNe, Int.le_refl, Nat.le_refl, Nat.reduceAdd, ne_eq, not_false_eq_true, reduceCtorEq, beq_true, beq_false, BEq.rfl, Bool.not_true, Bool.not_false, decide_true, decide_false, exists_prop, modelAV]
  intro pa pb
  refine draw_by (mu := [12, 13]) (fun _ => True) (.take 0 (.take 1 (.take 3 (.take 4 (.br 2 (.br 5 (.take 6 (.take 7 (.done))) (.stop)) (.stop)))))) (by decide +kernel) trivial (by decide +kernel) (by decide +kernel) ?_
  simp only [go_sem, Int.natCast_nonneg, Nat.reduceEqDiff, Nat.reduceAdd, Nat.reduceSub, Nat.reduceLT, Nat.reduceMul, Nat.reduceBEq, Nat.reduceLeDiff, ↓reduceIte, Int.toNat_natCast, Int.reduceToNat, Int.toNat_zero, Int.toNat_one, not_true_eq_false, false_or, or_self, Nat.reduceGT, Option.isSome_some, Bool.and_self, Nat.zero_add, Nat.mul_one, List.length_map, List.take_length, Int.cast_ofNat_Int, Int.reduceLE, Int.reduceLT, Int.reduceGE, Int.reduceGT, Int.reduceEq, Int.reduceNe, Int.le_refl, Nat.le_refl, Nat.reduceAdd, ne_eq, not_false_eq_true, reduceCtorEq, beq_true, beq_false, BEq.rfl, Bool.not_true, Bool.not_false, decide_true, decide_false, exists_prop, modelC]
  refine callX_by (reach_calls s1 ho1 ha a m1 wf1 va N1 hal _) ?_
  rintro r hp1 ⟨h9, rfl, rfl⟩
  simp only [go_sem, Int.natCast_nonneg, Nat.reduceEqDiff, Nat.reduceAdd, Nat.reduceSub, Nat.reduceLT, Nat.reduceMul, Nat.reduceBEq, Nat.reduceLeDiff, ↓reduceIte, Int.toNat_natCast, Int.reduceToNat, Int.toNat_zero, Int.toNat_one, not_true_eq_false, false_or, or_self, Nat.reduceGT, Option.isSome_some, Bool.and_self, Nat.zero_add, Nat.mul_one, List.length_map, List.take_length, Int.cast_ofNat_Int, Int.reduceLE, Int.reduceLT, Int.reduceGE, Int.reduceGT, Int.reduceEq, Int.reduceNe, Int.le_refl, Nat.le_refl, Nat.reduceAdd, ne_eq, not_false_eq_true, reduceCtorEq, beq_true, beq_false, BEq.rfl, Bool.not_true, Bool.not_false, decide_true, decide_false, exists_prop, modelC]
  refine callX_by (reach_calls s2 ho2 hb b m2 wf2 vb N2 hbl _) ?_
  rintro r hp1 ⟨h10, rfl, rfl⟩
  have hisoD : isoG G a H b = (decide ((reachG G a).length = (reachG H b).length) && (sameL (pairW (reachG G a) (reachG H b)) a b && sameL (pairO G H (reachG G a) (reachG H b)) (reachG G a) (reachG H b))) := rfl
  generalize reachG G a = X at *
  generalize reachG H b = Y at *
  simp only [go_sem, Int.natCast_nonneg, Nat.reduceEqDiff, Nat.reduceAdd, Nat.reduceSub, Nat.reduceLT, Nat.reduceMul, Nat.reduceBEq, Nat.reduceLeDiff, ↓reduceIte, Int.toNat_natCast, Int.reduceToNat, Int.toNat_zero, Int.toNat_one, not_true_eq_false, false_or, or_self, Nat.reduceGT, Option.isSome_some, Bool.and_self, Nat.zero_add, Nat.mul_one, List.length_map, List.take_length, Int.cast_ofNat_Int, Int.reduceLE, Int.reduceLT, Int.reduceGE, Int.reduceGT, Int.reduceEq, Int.reduceNe, Int.le_refl, Nat.le_refl, Nat.reduceAdd, ne_eq, not_false_eq_true, reduceCtorEq, beq_true, beq_false, BEq.rfl, Bool.not_true, Bool.not_false, decide_true, decide_false, exists_prop, intsAV]
  refine brK_mk (fun h1 => ?_) (fun h1 => ?_) <;> simp only [go_sem, Int.natCast_nonneg, Nat.reduceEqDiff, Nat.reduceAdd, Nat.reduceSub, Nat.reduceLT, Nat.reduceMul, Nat.reduceBEq, Nat.reduceLeDiff, ↓reduceIte, Int.toNat_natCast, Int.reduceToNat, Int.toNat_zero, Int.toNat_one, not_true_eq_false, false_or, or_self, Nat.reduceGT, Option.isSome_some, Bool.and_self, Nat.zero_add, Nat.mul_one, List.length_map, List.take_length, Int.cast_ofNat_Int, Int.reduceLE, Int.reduceLT, Int.reduceGE, Int.reduceGT, Int.reduceEq, Int.reduceNe, Int.le_refl, Nat.le_refl, Nat.reduceAdd, ne_eq, not_false_eq_true, reduceCtorEq, beq_true, beq_false, BEq.rfl, Bool.not_true, Bool.not_false, decide_true, decide_false, exists_prop, h1]
  · have hlen : X.length = Y.length := by simp at h1; omega
    refine callX_by (pairs_calls ha h9 hb h10 a b X Y _) ?_
    rintro r hp1 ⟨rfl, rfl⟩
    simp only [go_sem, Int.natCast_nonneg, Nat.reduceEqDiff, Nat.reduceAdd, Nat.reduceSub, Nat.reduceLT, Nat.reduceMul, Nat.reduceBEq, Nat.reduceLeDiff, ↓reduceIte, Int.toNat_natCast, Int.reduceToNat, Int.toNat_zero, Int.toNat_one, not_true_eq_false, false_or, or_self, Nat.reduceGT, Option.isSome_some, Bool.and_self, Nat.zero_add, Nat.mul_one, List.length_map, List.take_length, Int.cast_ofNat_Int, Int.reduceLE, Int.reduceLT, Int.reduceGE, Int.reduceGT, Int.reduceEq, Int.reduceNe, Int.le_refl, Nat.le_refl, Nat.reduceAdd, ne_eq, not_false_eq_true, reduceCtorEq, beq_true, beq_false, BEq.rfl, Bool.not_true, Bool.not_false, decide_true, decide_false, exists_prop]
    refine brK_mk (fun h2 => ?_) (fun h2 => ?_) <;> simp only [go_sem, Int.natCast_nonneg, Nat.reduceEqDiff, Nat.reduceAdd, Nat.reduceSub, Nat.reduceLT, Nat.reduceMul, Nat.reduceBEq, Nat.reduceLeDiff, ↓reduceIte, Int.toNat_natCast, Int.reduceToNat, Int.toNat_zero, Int.toNat_one, not_true_eq_false, false_or, or_self, Nat.reduceGT, Option.isSome_some, Bool.and_self, Nat.zero_add, Nat.mul_one, List.length_map, List.take_length, Int.cast_ofNat_Int, Int.reduceLE, Int.reduceLT, Int.reduceGE, Int.reduceGT, Int.reduceEq, Int.reduceNe, Int.le_refl, Nat.le_refl, Nat.reduceAdd, ne_eq, not_false_eq_true, reduceCtorEq, beq_true, beq_false, BEq.rfl, Bool.not_true, Bool.not_false, decide_true, decide_false, exists_prop, h2]
    · refine aw_loopX 74 (fun k : Nat => [(4, .ref pa (modelC s1 ho1 l1)), (6, .ref pb (modelC s2 ho2 l2)), (9, .lst 1 h9 (X.map iv)), (10, .lst 1 h10 (Y.map iv)), (34, .v (.int .i64 X.length)), (35, .v (.int .i64 k))])
        (fun _ => hp1) (fun k => k ≤ X.length ∧ sameL (pairO G H X Y) (X.drop k) (Y.drop k) = sameL (pairO G H X Y) X Y) (fun k => X.length - k) 0
        ⟨Nat.zero_le _, rfl⟩ (le_mkSl rfl (Hp.le_refl _) (by simp [go_sem, modelC])) ?_
      rintro k ⟨hk, hall⟩
      refine awp_sound (mu := [12, 13]) _ _ _ ?_
      simp only [go_sem, Int.natCast_nonneg, Nat.reduceEqDiff, Nat.reduceAdd, Nat.reduceSub, Nat.reduceLT, Nat.reduceMul, Nat.reduceBEq, Nat.reduceLeDiff, ↓reduceIte, Int.toNat_natCast, Int.reduceToNat, Int.toNat_zero, Int.toNat_one, not_true_eq_false, false_or, or_self, Nat.reduceGT, Option.isSome_some, Bool.and_self, Nat.zero_add, Nat.mul_one, List.length_map, List.take_length, Int.cast_ofNat_Int, Int.reduceLE, Int.reduceLT, Int.reduceGE, Int.reduceGT, Int.reduceEq, Int.reduceNe, Int.le_refl, Nat.le_refl, Nat.reduceAdd, ne_eq, not_false_eq_true, reduceCtorEq, beq_true, beq_false, BEq.rfl, Bool.not_true, Bool.not_false, decide_true, decide_false, exists_prop]
      refine brK_mk (fun h => ?_) (fun h => ?_) <;> simp only [go_sem, Int.natCast_nonneg, Nat.reduceEqDiff, Nat.reduceAdd, Nat.reduceSub, Nat.reduceLT, Nat.reduceMul, Nat.reduceBEq, Nat.reduceLeDiff, ↓reduceIte, Int.toNat_natCast, Int.reduceToNat, Int.toNat_zero, Int.toNat_one, not_true_eq_false, false_or, or_self, Nat.reduceGT, Option.isSome_some, Bool.and_self, Nat.zero_add, Nat.mul_one, List.length_map, List.take_length, Int.cast_ofNat_Int, Int.reduceLE, Int.reduceLT, Int.reduceGE, Int.reduceGT, Int.reduceEq, Int.reduceNe, Int.le_refl, Nat.le_refl, Nat.reduceAdd, ne_eq, not_false_eq_true, reduceCtorEq, beq_true, beq_false, BEq.rfl, Bool.not_true, Bool.not_false, decide_true, decide_false, exists_prop, h]
      · have hk' : k < X.length := by simpa using h
        obtain ⟨x, hx⟩ := some_at' X k hk'
        obtain ⟨y, hy⟩ := some_at' Y k (by omega)
        rw [dropAt hx, dropAt hy, sameL] at hall
        obtain ⟨i1, r1, q11, q12, q13, q14, q15⟩ := mr_find m1 (lok_obj okX (List.mem_of_getElem? hx))
        obtain ⟨i2, r2, q21, q22, q23, q24, q25⟩ := mr_find m2 (lok_obj okY (List.mem_of_getElem? hy))
        have hwu : IntKind.i64.wrap ((k : Int) + 1) = ((k + 1 : Nat) : Int) := IntWalk.i64_in _ (by omega)
        have t1 : (i1 : Int).toNat = i1 := by omega
        have t2 : (i2 : Int).toNat = i2 := by omega
        refine draw_by (mu := [12, 13]) (fun _ => True) (.take 0 (.take 1 (.take 2 (.take 3 (.take 4 (.take 5 (.take 6 (.take 10 (.take 11 (.take 12 (.take 13 (.take 14 (.take 15 (.take 16 (.br 7 (.take 8 (.take 9 (.br 17 (.take 18 (.take 19 (.br 20 (.br 21 (.br 22 (.br 23 (.done) (.stop)) (.stop)) (.stop)) (.br 21 (.br 20 (.br 22 (.br 23 (.done) (.stop)) (.stop)) (.stop)) (.stop))))) (.br 20 (.br 17 (.take 18 (.take 19 (.br 21 (.br 22 (.br 23 (.done) (.stop)) (.stop)) (.stop)))) (.br 21 (.br 17 (.take 18 (.take 19 (.br 22 (.br 23 (.done) (.stop)) (.stop)))) (.stop)) (.stop))) (.br 21 (.br 17 (.take 18 (.take 19 (.br 20 (.br 22 (.br 23 (.done) (.stop)) (.stop)) (.stop)))) (.br 20 (.br 17 (.take 18 (.take 19 (.br 22 (.br 23 (.done) (.stop)) (.stop)))) (.stop)) (.stop))) (.stop)))))) (.br 20 (.br 7 (.take 8 (.take 9 (.br 17 (.take 18 (.take 19 (.br 21 (.br 22 (.br 23 (.done) (.stop)) (.stop)) (.stop)))) (.br 21 (.br 17 (.take 18 (.take 19 (.br 22 (.br 23 (.done) (.stop)) (.stop)))) (.stop)) (.stop))))) (.br 21 (.br 7 (.take 8 (.take 9 (.br 17 (.take 18 (.take 19 (.br 22 (.br 23 (.done) (.stop)) (.stop)))) (.stop)))) (.stop)) (.stop))) (.br 21 (.br 7 (.take 8 (.take 9 (.br 17 (.take 18 (.take 19 (.br 20 (.br 22 (.br 23 (.done) (.stop)) (.stop)) (.stop)))) (.br 20 (.br 17 (.take 18 (.take 19 (.br 22 (.br 23 (.done) (.stop)) (.stop)))) (.stop)) (.stop))))) (.br 20 (.br 7 (.take 8 (.take 9 (.br 17 (.take 18 (.take 19 (.br 22 (.br 23 (.done) (.stop)) (.stop)))) (.stop)))) (.stop)) (.stop))) (.stop)))))))))))))))))) (by decide +kernel) trivial (by decide +kernel) (by decide +kernel) ?_
        simp only [go_sem, Int.natCast_nonneg, Nat.reduceEqDiff, Nat.reduceAdd, Nat.reduceSub, Nat.reduceLT, Nat.reduceMul, Nat.reduceBEq, Nat.reduceLeDiff, ↓reduceIte, Int.toNat_natCast, Int.reduceToNat, Int.toNat_zero, Int.toNat_one, not_true_eq_false, false_or, or_self, Nat.reduceGT, Option.isSome_some, Bool.and_self, Nat.zero_add, Nat.mul_one, List.length_map, List.take_length, Int.cast_ofNat_Int, Int.reduceLE, Int.reduceLT, Int.reduceGE, Int.reduceGT, Int.reduceEq, Int.reduceNe, Int.le_refl, Nat.le_refl, Nat.reduceAdd, ne_eq, not_false_eq_true, reduceCtorEq, beq_true, beq_false, BEq.rfl, Bool.not_true, Bool.not_false, decide_true, decide_false, exists_prop, map_at' iv _ _ _ hx, map_at' iv _ _ _ hy, iv, modelC, objsAV]
        repeat' first
          | (refine callX_by (find_calls s1 ho1 l1 x _) ?_; rintro r hp1 ⟨rfl, rfl⟩; simp only [go_sem, Int.natCast_nonneg, Nat.reduceEqDiff, Nat.reduceAdd, Nat.reduceSub, Nat.reduceLT, Nat.reduceMul, Nat.reduceBEq, Nat.reduceLeDiff, ↓reduceIte, Int.toNat_natCast, Int.reduceToNat, Int.toNat_zero, Int.toNat_one, not_true_eq_false, false_or, or_self, Nat.reduceGT, Option.isSome_some, Bool.and_self, Nat.zero_add, Nat.mul_one, List.length_map, List.take_length, Int.cast_ofNat_Int, Int.reduceLE, Int.reduceLT, Int.reduceGE, Int.reduceGT, Int.reduceEq, Int.reduceNe, Int.le_refl, Nat.le_refl, Nat.reduceAdd, ne_eq, not_false_eq_true, reduceCtorEq, beq_true, beq_false, BEq.rfl, Bool.not_true, Bool.not_false, decide_true, decide_false, exists_prop, q11, t1, map_at' RObj.av _ _ _ q12, RObj.av, RObj.cs])
          | (refine callX_by (find_calls s2 ho2 l2 y _) ?_; rintro r hp1 ⟨rfl, rfl⟩; simp only [go_sem, Int.natCast_nonneg, Nat.reduceEqDiff, Nat.reduceAdd, Nat.reduceSub, Nat.reduceLT, Nat.reduceMul, Nat.reduceBEq, Nat.reduceLeDiff, ↓reduceIte, Int.toNat_natCast, Int.reduceToNat, Int.toNat_zero, Int.toNat_one, not_true_eq_false, false_or, or_self, Nat.reduceGT, Option.isSome_some, Bool.and_self, Nat.zero_add, Nat.mul_one, List.length_map, List.take_length, Int.cast_ofNat_Int, Int.reduceLE, Int.reduceLT, Int.reduceGE, Int.reduceGT, Int.reduceEq, Int.reduceNe, Int.le_refl, Nat.le_refl, Nat.reduceAdd, ne_eq, not_false_eq_true, reduceCtorEq, beq_true, beq_false, BEq.rfl, Bool.not_true, Bool.not_false, decide_true, decide_false, exists_prop, q21, t2, map_at' RObj.av _ _ _ q22, RObj.av, RObj.cs])
          | (refine ⟨?_, ?_⟩)
          | (intro _ _)
        all_goals
          rename_i bA hA bB hB
          have ne : bA ≠ bB := by rintro rfl; have := hB.1; simp [Hp.setBlk] at this
          have hAn : hp1.blk bA = none := hA.1
          have hBn : hp1.blk bB = none := by have := hB.1; simpa [Hp.setBlk, Ne.symm ne] using this
          simp only [go_sem, Int.natCast_nonneg, Nat.reduceEqDiff, Nat.reduceAdd, Nat.reduceSub, Nat.reduceLT, Nat.reduceMul, Nat.reduceBEq, Nat.reduceLeDiff, ↓reduceIte, Int.toNat_natCast, Int.reduceToNat, Int.toNat_zero, Int.toNat_one, not_true_eq_false, false_or, or_self, Nat.reduceGT, Option.isSome_some, Bool.and_self, Nat.zero_add, Nat.mul_one, List.length_map, List.take_length, Int.cast_ofNat_Int, Int.reduceLE, Int.reduceLT, Int.reduceGE, Int.reduceGT, Int.reduceEq, Int.reduceNe, Int.le_refl, Nat.le_refl, Nat.reduceAdd, ne_eq, not_false_eq_true, reduceCtorEq, beq_true, beq_false, BEq.rfl, Bool.not_true, Bool.not_false, decide_true, decide_false, exists_prop, ne, Ne.symm ne]
          refine brK_mk (fun h3 => ?_) (fun h3 => ?_) <;> simp only [go_sem, Int.natCast_nonneg, Nat.reduceEqDiff, Nat.reduceAdd, Nat.reduceSub, Nat.reduceLT, Nat.reduceMul, Nat.reduceBEq, Nat.reduceLeDiff, ↓reduceIte, Int.toNat_natCast, Int.reduceToNat, Int.toNat_zero, Int.toNat_one, not_true_eq_false, false_or, or_self, Nat.reduceGT, Option.isSome_some, Bool.and_self, Nat.zero_add, Nat.mul_one, List.length_map, List.take_length, Int.cast_ofNat_Int, Int.reduceLE, Int.reduceLT, Int.reduceGE, Int.reduceGT, Int.reduceEq, Int.reduceNe, Int.le_refl, Nat.le_refl, Nat.reduceAdd, ne_eq, not_false_eq_true, reduceCtorEq, beq_true, beq_false, BEq.rfl, Bool.not_true, Bool.not_false, decide_true, decide_false, exists_prop, h3, ne, Ne.symm ne]
          · refine callX_by (pairs_calls r1.h h9 r2.h h10 r1.fs r2.fs X Y _) ?_
            rintro r hp3 ⟨rfl, rfl⟩
            simp only [go_sem, Int.natCast_nonneg, Nat.reduceEqDiff, Nat.reduceAdd, Nat.reduceSub, Nat.reduceLT, Nat.reduceMul, Nat.reduceBEq, Nat.reduceLeDiff, ↓reduceIte, Int.toNat_natCast, Int.reduceToNat, Int.toNat_zero, Int.toNat_one, not_true_eq_false, false_or, or_self, Nat.reduceGT, Option.isSome_some, Bool.and_self, Nat.zero_add, Nat.mul_one, List.length_map, List.take_length, Int.cast_ofNat_Int, Int.reduceLE, Int.reduceLT, Int.reduceGE, Int.reduceGT, Int.reduceEq, Int.reduceNe, Int.le_refl, Nat.le_refl, Nat.reduceAdd, ne_eq, not_false_eq_true, reduceCtorEq, beq_true, beq_false, BEq.rfl, Bool.not_true, Bool.not_false, decide_true, decide_false, exists_prop, ne, Ne.symm ne]
            have e0 : pairO G H X Y x y = sameL (pairW X Y) r1.fs r2.fs := by rw [pairO, ← q14, ← q24, ← q15, ← q25, h3, Bool.true_and]
            rw [e0] at hall
            refine brK_mk (fun h4 => ?_) (fun h4 => ?_) <;> simp only [go_sem, Int.natCast_nonneg, Nat.reduceEqDiff, Nat.reduceAdd, Nat.reduceSub, Nat.reduceLT, Nat.reduceMul, Nat.reduceBEq, Nat.reduceLeDiff, ↓reduceIte, Int.toNat_natCast, Int.reduceToNat, Int.toNat_zero, Int.toNat_one, not_true_eq_false, false_or, or_self, Nat.reduceGT, Option.isSome_some, Bool.and_self, Nat.zero_add, Nat.mul_one, List.length_map, List.take_length, Int.cast_ofNat_Int, Int.reduceLE, Int.reduceLT, Int.reduceGE, Int.reduceGT, Int.reduceEq, Int.reduceNe, Int.le_refl, Nat.le_refl, Nat.reduceAdd, ne_eq, not_false_eq_true, reduceCtorEq, beq_true, beq_false, BEq.rfl, Bool.not_true, Bool.not_false, decide_true, decide_false, exists_prop, h4, hwu]
            · refine ⟨k + 1, by omega, ⟨by omega, by rw [← hall, h4]; rfl⟩, le_mkSl rfl ?_ (by simp [go_sem, modelC, objsAV, hwu])⟩
              simp only [go_sem, Int.natCast_nonneg, Nat.reduceEqDiff, Nat.reduceAdd, Nat.reduceSub, Nat.reduceLT, Nat.reduceMul, Nat.reduceBEq, Nat.reduceLeDiff, ↓reduceIte, Int.toNat_natCast, Int.reduceToNat, Int.toNat_zero, Int.toNat_one, not_true_eq_false, false_or, or_self, Nat.reduceGT, Option.isSome_some, Bool.and_self, Nat.zero_add, Nat.mul_one, List.length_map, List.take_length, Int.cast_ofNat_Int, Int.reduceLE, Int.reduceLT, Int.reduceGE, Int.reduceGT, Int.reduceEq, Int.reduceNe, Int.le_refl, Nat.le_refl, Nat.reduceAdd, ne_eq, not_false_eq_true, reduceCtorEq, beq_true, beq_false, BEq.rfl, Bool.not_true, Bool.not_false, decide_true, decide_false, exists_prop]
              refine ⟨fun i z hi => ?_, fun _ _ h => h, List.Sublist.refl _, fun _ h => h⟩
              have e1 : i ≠ bA := by rintro rfl; rw [hAn] at hi; cases hi
              have e2 : i ≠ bB := by rintro rfl; rw [hBn] at hi; cases hi
              simpa [Hp.setBlk, e1, e2] using hi
            · refine ret_le (hp' := hp1) ⟨fun i z hi => ?_, fun _ _ h => h, List.Sublist.refl _, fun _ h => h⟩ ⟨by rw [hisoD, ← hall, h4]; simp, rfl⟩
              have e1 : i ≠ bA := by rintro rfl; rw [hAn] at hi; cases hi
              have e2 : i ≠ bB := by rintro rfl; rw [hBn] at hi; cases hi
              simpa [Hp.setBlk, e1, e2] using hi
          · have e0 : pairO G H X Y x y = false := by rw [pairO, ← q14, ← q24, h3, Bool.false_and]
            rw [e0] at hall
            refine ret_le (hp' := hp1) ⟨fun i z hi => ?_, fun _ _ h => h, List.Sublist.refl _, fun _ h => h⟩ ⟨by rw [hisoD, ← hall]; simp, rfl⟩
            have e1 : i ≠ bA := by rintro rfl; rw [hAn] at hi; cases hi
            have e2 : i ≠ bB := by rintro rfl; rw [hBn] at hi; cases hi
            simpa [Hp.setBlk, e1, e2] using hi
      · have e : X.length ≤ k := by simp at h; omega
        rw [List.drop_of_length_le e, List.drop_of_length_le (hlen ▸ e)] at hall
        exact ret_same ⟨by rw [hisoD, h2, ← hall]; simp [hlen, sameL], rfl⟩
    · exact ret_same ⟨by rw [hisoD, h2]; simp, rfl⟩
  · have hlen : X.length ≠ Y.length := by simp at h1; omega
    exact ret_same ⟨by rw [hisoD]; simp [hlen], rfl⟩
end Go.Proofs.Ytfdlfcafcjhpmaa
