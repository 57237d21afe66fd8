/- The reference for heaps: reaching, moving. -/
import Derived.Test.YtfdlfcafcjhpmaaCH14
set_option linter.unusedSimpArgs false
set_option linter.unusedVariables false
set_option maxRecDepth 20000
set_option maxHeartbeats 4000000
namespace Go.Proofs.Ytfdlfcafcjhpmaa
open Go.AL

theorem found0_calls (hw : Value) (ws : List WordG) (hlen : ws.length ≤ 8796093022000) (hp : Hp) :
    ACalls Try.prog 71 [.v (.slice none 0 0), wordsAV hw ws] hp (fun r hp' => ∃ h', r = intsAV h' (foundL [] ws) ∧ hp' = hp.setSp ((3, 1, h') :: hp.sp)) :=
  acalls_cast (args := [intsAV (.slice none 0 0) [], wordsAV hw ws]) rfl (fun m h => ⟨(Cast.nil 1).2 m trivial, h.2⟩) (acalls_addNil 3 1 (found_calls (L := []) rfl hw ws (by simp only [List.length_nil]; omega)))

theorem origO_len {G : List ObjG} (a : Int) : (origO G a).fs.length ≤ endO G := by
  unfold origO
  cases ho : objAt G a with
  | none => exact Nat.zero_le _
  | some o =>
    obtain ⟨A, B, rfl, _⟩ := objF_split ho
    rw [endO_app, endO_cons]; simp only [osz, Option.getD_some]; omega
theorem lok_obj {G : List ObjG} {L : List Int} (h : LOk G L) {a : Int} (ha : a ∈ L) : objAt G a = some (origO G a) := by
  obtain ⟨o, ho⟩ := Option.isSome_iff_exists.1 (objF_mem.2 (h.ok a ha))
  have ho' : objAt G a = some o := ho
  rw [origO, ho']; rfl

theorem reach_calls (size : Int) (ho hr : Value) {G : List ObjG} {l : List RObj} (roots : List WordG) (hm : MR G l) (hwf : Wf G) (hv : VW G roots) (hN : endO G ≤ 2097152) (hrl : roots.length ≤ 8796093022000) (hp : Hp) :
    ACalls Try.prog 31 [modelAV size ho l, wordsAV hr roots] hp (fun r hp' => ∃ h', r = intsAV h' (reachG G roots) ∧ hp' = hp) := by
  have hGl := len_endO G
  refine acalls_of Try.func31 rfl (by decide +kernel) (awp_sound (mu := []) _ _ _ ?_)
  simp only [go_sem, Int.natCast_nonneg, Nat.reduceEqDiff, Nat.reduceAdd, Nat.reduceSub, Nat.reduceLT, Nat.reduceMul, Nat.reduceBEq, Nat.reduceLeDiff, ↓reduceIte, Int.toNat_natCast, Int.reduceToNat, Int.toNat_zero, Int.toNat_one, not_true_eq_false, false_or, or_self, Nat.reduceGT, Option.isSome_some, Bool.and_self, Nat.zero_add, Nat.mul_one, List.length_map, List.take_length, Int.cast_ofNat_Int, Int.reduceLE, Int.reduceLT, Int.reduceGE, Int.reduceGT, Int.reduceEq, Int.reduceNe, Int.le_refl, Nat.le_refl, Nat.reduceAdd, ne_eq, not_false_eq_true, reduceCtorEq, beq_true, beq_false, BEq.rfl, Bool.not_true, Bool.not_false, decide_true, decide_false, exists_prop, modelAV]
  intro p
  refine callX_by (found0_calls hr roots (by omega) _) ?_
  rintro r hp' ⟨h1, rfl, rfl⟩
  simp only [go_sem, Int.natCast_nonneg, Nat.reduceEqDiff, Nat.reduceAdd, Nat.reduceSub, Nat.reduceLT, Nat.reduceMul, Nat.reduceBEq, Nat.reduceLeDiff, ↓reduceIte, Int.toNat_natCast, Int.reduceToNat, Int.toNat_zero, Int.toNat_one, not_true_eq_false, false_or, or_self, Nat.reduceGT, Option.isSome_some, Bool.and_self, Nat.zero_add, Nat.mul_one, List.length_map, List.take_length, Int.cast_ofNat_Int, Int.reduceLE, Int.reduceLT, Int.reduceGE, Int.reduceGT, Int.reduceEq, Int.reduceNe, Int.le_refl, Nat.le_refl, Nat.reduceAdd, ne_eq, not_false_eq_true, reduceCtorEq, beq_true, beq_false, BEq.rfl, Bool.not_true, Bool.not_false, decide_true, decide_false, exists_prop]
  refine aw_loopX 29 (fun x : Nat × Value × List Int => [(2, .ref p (modelC size ho l)), (5, intsAV x.2.1 x.2.2), (6, .v (.int .i64 x.1))])
    (fun x => hp.setSp ((3, 1, x.2.1) :: hp.sp)) (fun x => RchI G roots x.1 x.2.2) (fun x => G.length + 1 - x.1) (0, h1, foundL [] roots) (rch_start hv) (le_mkSl rfl (Hp.le_refl _) (by simp [go_sem])) ?_
  rintro ⟨i, h5, L⟩ hi
  simp only at hi
  have hLG := lok_len hi.ok
  refine awp_sound (mu := []) _ _ _ ?_
  simp only [go_sem, Int.natCast_nonneg, Nat.reduceEqDiff, Nat.reduceAdd, Nat.reduceSub, Nat.reduceLT, Nat.reduceMul, Nat.reduceBEq, Nat.reduceLeDiff, ↓reduceIte, Int.toNat_natCast, Int.reduceToNat, Int.toNat_zero, Int.toNat_one, not_true_eq_false, false_or, or_self, Nat.reduceGT, Option.isSome_some, Bool.and_self, Nat.zero_add, Nat.mul_one, List.length_map, List.take_length, Int.cast_ofNat_Int, Int.reduceLE, Int.reduceLT, Int.reduceGE, Int.reduceGT, Int.reduceEq, Int.reduceNe, Int.le_refl, Nat.le_refl, Nat.reduceAdd, ne_eq, not_false_eq_true, reduceCtorEq, beq_true, beq_false, BEq.rfl, Bool.not_true, Bool.not_false, decide_true, decide_false, exists_prop, intsAV]
  refine brK_mk (fun h1 => ?_) (fun h1 => ?_) <;> simp only [go_sem, Int.natCast_nonneg, Nat.reduceEqDiff, Nat.reduceAdd, Nat.reduceSub, Nat.reduceLT, Nat.reduceMul, Nat.reduceBEq, Nat.reduceLeDiff, ↓reduceIte, Int.toNat_natCast, Int.reduceToNat, Int.toNat_zero, Int.toNat_one, not_true_eq_false, false_or, or_self, Nat.reduceGT, Option.isSome_some, Bool.and_self, Nat.zero_add, Nat.mul_one, List.length_map, List.take_length, Int.cast_ofNat_Int, Int.reduceLE, Int.reduceLT, Int.reduceGE, Int.reduceGT, Int.reduceEq, Int.reduceNe, Int.le_refl, Nat.le_refl, Nat.reduceAdd, ne_eq, not_false_eq_true, reduceCtorEq, beq_true, beq_false, BEq.rfl, Bool.not_true, Bool.not_false, decide_true, decide_false, exists_prop, h1]
  · have hi' : i < L.length := by simpa using h1
    obtain ⟨a, ha⟩ := some_at' L i hi'
    have hob := lok_obj hi.ok (List.mem_of_getElem? ha)
    obtain ⟨j, r, hj, hjr, hra, hrt, hrf⟩ := mr_find hm hob
    have hwi : IntKind.i64.wrap ((i : Int) + 1) = ((i + 1 : Nat) : Int) := IntWalk.i64_in _ (by omega)
    have hol := origO_len (G := G) a
    refine draw_by (mu := []) (fun _ => True) (.take 0 (.take 1 (.take 2 (.take 3 (.take 4 (.take 5 (.take 6 (.take 7 (.br 8 (.take 9 (.take 10 (.take 11 (.br 12 (.take 13 (.done)) (.stop))))) (.stop)))))))))) (by decide +kernel) trivial (by decide +kernel) (by decide +kernel) ?_
    simp only [go_sem, Int.natCast_nonneg, Nat.reduceEqDiff, Nat.reduceAdd, Nat.reduceSub, Nat.reduceLT, Nat.reduceMul, Nat.reduceBEq, Nat.reduceLeDiff, ↓reduceIte, Int.toNat_natCast, Int.reduceToNat, Int.toNat_zero, Int.toNat_one, not_true_eq_false, false_or, or_self, Nat.reduceGT, Option.isSome_some, Bool.and_self, Nat.zero_add, Nat.mul_one, List.length_map, List.take_length, Int.cast_ofNat_Int, Int.reduceLE, Int.reduceLT, Int.reduceGE, Int.reduceGT, Int.reduceEq, Int.reduceNe, Int.le_refl, Nat.le_refl, Nat.reduceAdd, ne_eq, not_false_eq_true, reduceCtorEq, beq_true, beq_false, BEq.rfl, Bool.not_true, Bool.not_false, decide_true, decide_false, exists_prop, map_at' iv _ _ _ ha, iv, modelC, objsAV]
    refine callX_by (find_calls size ho l a _) ?_
    rintro r' hp2 ⟨rfl, rfl⟩
    have hjl : (j : Int).toNat = j := by omega
    simp only [go_sem, Int.natCast_nonneg, Nat.reduceEqDiff, Nat.reduceAdd, Nat.reduceSub, Nat.reduceLT, Nat.reduceMul, Nat.reduceBEq, Nat.reduceLeDiff, ↓reduceIte, Int.toNat_natCast, Int.reduceToNat, Int.toNat_zero, Int.toNat_one, not_true_eq_false, false_or, or_self, Nat.reduceGT, Option.isSome_some, Bool.and_self, Nat.zero_add, Nat.mul_one, List.length_map, List.take_length, Int.cast_ofNat_Int, Int.reduceLE, Int.reduceLT, Int.reduceGE, Int.reduceGT, Int.reduceEq, Int.reduceNe, Int.le_refl, Nat.le_refl, Nat.reduceAdd, ne_eq, not_false_eq_true, reduceCtorEq, beq_true, beq_false, BEq.rfl, Bool.not_true, Bool.not_false, decide_true, decide_false, exists_prop, hj, hjl, map_at' RObj.av _ _ _ hjr, RObj.av, RObj.cs]
    rw [hrf]
    refine callX_by (found_calls (L := L) (h := h5) (l2 := hp.sp) rfl r.h (origO G a).fs (by omega)) ?_
    rintro r' hp3 ⟨h6, rfl, rfl⟩
    simp only [go_sem, Int.natCast_nonneg, Nat.reduceEqDiff, Nat.reduceAdd, Nat.reduceSub, Nat.reduceLT, Nat.reduceMul, Nat.reduceBEq, Nat.reduceLeDiff, ↓reduceIte, Int.toNat_natCast, Int.reduceToNat, Int.toNat_zero, Int.toNat_one, not_true_eq_false, false_or, or_self, Nat.reduceGT, Option.isSome_some, Bool.and_self, Nat.zero_add, Nat.mul_one, List.length_map, List.take_length, Int.cast_ofNat_Int, Int.reduceLE, Int.reduceLT, Int.reduceGE, Int.reduceGT, Int.reduceEq, Int.reduceNe, Int.le_refl, Nat.le_refl, Nat.reduceAdd, ne_eq, not_false_eq_true, reduceCtorEq, beq_true, beq_false, BEq.rfl, Bool.not_true, Bool.not_false, decide_true, decide_false, exists_prop, hwi]
    refine ⟨(i + 1, h6, foundL L (origO G a).fs), by simp only; omega, rch_step hwf hi ha, le_mkSl rfl (by simp only [go_sem, Int.natCast_nonneg, Nat.reduceEqDiff, Nat.reduceAdd, Nat.reduceSub, Nat.reduceLT, Nat.reduceMul, Nat.reduceBEq, Nat.reduceLeDiff, ↓reduceIte, Int.toNat_natCast, Int.reduceToNat, Int.toNat_zero, Int.toNat_one, not_true_eq_false, false_or, or_self, Nat.reduceGT, Option.isSome_some, Bool.and_self, Nat.zero_add, Nat.mul_one, List.length_map, List.take_length, Int.cast_ofNat_Int, Int.reduceLE, Int.reduceLT, Int.reduceGE, Int.reduceGT, Int.reduceEq, Int.reduceNe, Int.le_refl, Nat.le_refl, Nat.reduceAdd, ne_eq, not_false_eq_true, reduceCtorEq, beq_true, beq_false, BEq.rfl, Bool.not_true, Bool.not_false, decide_true, decide_false, exists_prop]; exact Hp.le_refl _) ?_⟩
    simp [go_sem, intsAV, modelC, objsAV]
  · exact ret_le (hp' := hp) (Hp.le_addSp _ _) ⟨h5, by rw [rch_end hi (by simp at h1; omega)], rfl⟩

/-- The new addresses. -/
def toL (G : List ObjG) (L : List Int) : List Int := L.map fun a => (newA G L a : Int)
theorem toL_at {G : List ObjG} {L : List Int} {i : Nat} {a : Int} (ha : L[i]? = some a) : (toL G L)[i]? = some (newA G L a : Int) := by rw [toL, List.getElem?_map, ha]; rfl
theorem le_fresh {hp X : Hp} {v : Nat} {T : TypeId} {cs : List AV} {l : List (TypeId × Nat × Value)} (hv : hp.blk v = none) (h1 : X.blk = (hp.setBlk v T cs).blk) (h2 : X.mp = hp.mp) (h3 : l.Sublist X.sp) (h4 : X.gl = hp.gl) : (hp.setSp l).le X :=
  ⟨fun j x hj => by
    rw [h1, Hp.setBlk_blk]
    have hj' : hp.blk j = some x := hj
    rw [if_neg (by rintro rfl; rw [hv] at hj'; cases hj')]; exact hj', fun i x h => by rw [h2]; exact h, h3, fun x h => by rw [h4]; exact h⟩
theorem moved_calls (hw h1 h2 : Value) {G : List ObjG} {L : List Int} (ws : List WordG) (hv : ∀ w ∈ ws, w.ref = true → w.n ∈ L) (hlen : ws.length ≤ 8796093022000) (hL : L.length ≤ 4194304) (hp : Hp) :
    ACalls Try.prog 102 [wordsAV hw ws, intsAV h1 L, intsAV h2 (toL G L)] hp (fun r hp' => (∃ h', r = wordsAV h' (ws.map (mvWord G L))) ∧ hp' = hp) := by
  refine acalls_addNil 65 2 ?_
  refine acalls_of Try.func102 rfl (by decide +kernel) (awp_sound (mu := [9, 25]) _ _ _ ?_)
  simp only [go_sem, Int.natCast_nonneg, Nat.reduceEqDiff, Nat.reduceAdd, Nat.reduceSub, Nat.reduceLT, Nat.reduceMul, Nat.reduceBEq, Nat.reduceLeDiff, ↓reduceIte, Int.toNat_natCast, Int.reduceToNat, Int.toNat_zero, Int.toNat_one, not_true_eq_false, false_or, or_self, Nat.reduceGT, Option.isSome_some, Bool.and_self, Nat.zero_add, Nat.mul_one, List.length_map, List.take_length, Int.cast_ofNat_Int, Int.reduceLE, Int.reduceLT, Int.reduceGE, Int.reduceGT, Int.reduceEq, Int.reduceNe, Int.le_refl, Nat.le_refl, Nat.reduceAdd, ne_eq, not_false_eq_true, reduceCtorEq, beq_true, beq_false, BEq.rfl, Bool.not_true, Bool.not_false, decide_true, decide_false, exists_prop, intsAV, wordsAV]
  refine aw_loopX 32 (fun x : Nat × Value => [(0, .lst 2 hw (ws.map WordG.av)), (1, intsAV h1 L), (2, intsAV h2 (toL G L)), (7, wordsAV x.2 ((ws.take x.1).map (mvWord G L))), (10, .lst 2 hw (ws.map WordG.av)), (11, .v (.int .i64 ws.length)), (12, .v (.int .i64 x.1))])
    (fun x => hp.setSp ((65, 2, x.2) :: hp.sp)) (fun x => x.1 ≤ ws.length) (fun x => ws.length - x.1) (0, .slice none 0 0) (Nat.zero_le _) (le_of_cast rfl (Hp.le_refl _) (by simp [go_sem, Cast.refl, intsAV, wordsAV]; exact Cast.nil 2)) ?_
  rintro ⟨k, h7⟩ hk
  simp only at hk
  refine awp_sound (mu := [9, 25]) _ _ _ ?_
  simp only [go_sem, Int.natCast_nonneg, Nat.reduceEqDiff, Nat.reduceAdd, Nat.reduceSub, Nat.reduceLT, Nat.reduceMul, Nat.reduceBEq, Nat.reduceLeDiff, ↓reduceIte, Int.toNat_natCast, Int.reduceToNat, Int.toNat_zero, Int.toNat_one, not_true_eq_false, false_or, or_self, Nat.reduceGT, Option.isSome_some, Bool.and_self, Nat.zero_add, Nat.mul_one, List.length_map, List.take_length, Int.cast_ofNat_Int, Int.reduceLE, Int.reduceLT, Int.reduceGE, Int.reduceGT, Int.reduceEq, Int.reduceNe, Int.le_refl, Nat.le_refl, Nat.reduceAdd, ne_eq, not_false_eq_true, reduceCtorEq, beq_true, beq_false, BEq.rfl, Bool.not_true, Bool.not_false, decide_true, decide_false, exists_prop, intsAV, wordsAV]
  refine brK_mk (fun h3 => ?_) (fun h3 => ?_) <;> simp only [go_sem, Int.natCast_nonneg, Nat.reduceEqDiff, Nat.reduceAdd, Nat.reduceSub, Nat.reduceLT, Nat.reduceMul, Nat.reduceBEq, Nat.reduceLeDiff, ↓reduceIte, Int.toNat_natCast, Int.reduceToNat, Int.toNat_zero, Int.toNat_one, not_true_eq_false, false_or, or_self, Nat.reduceGT, Option.isSome_some, Bool.and_self, Nat.zero_add, Nat.mul_one, List.length_map, List.take_length, Int.cast_ofNat_Int, Int.reduceLE, Int.reduceLT, Int.reduceGE, Int.reduceGT, Int.reduceEq, Int.reduceNe, Int.le_refl, Nat.le_refl, Nat.reduceAdd, ne_eq, not_false_eq_true, reduceCtorEq, beq_true, beq_false, BEq.rfl, Bool.not_true, Bool.not_false, decide_true, decide_false, exists_prop, h3]
  · have hk' : k < ws.length := by simpa using h3
    obtain ⟨w, hw'⟩ := some_at' ws k hk'
    have htk : (ws.take (k + 1)).map (mvWord G L) = (ws.take k).map (mvWord G L) ++ [mvWord G L w] := by rw [List.take_add_one, hw']; simp
    have hwu : IntKind.i64.wrap ((k : Int) + 1) = ((k + 1 : Nat) : Int) := IntWalk.i64_in _ (by omega)
    simp only [go_sem, Int.natCast_nonneg, Nat.reduceEqDiff, Nat.reduceAdd, Nat.reduceSub, Nat.reduceLT, Nat.reduceMul, Nat.reduceBEq, Nat.reduceLeDiff, ↓reduceIte, Int.toNat_natCast, Int.reduceToNat, Int.toNat_zero, Int.toNat_one, not_true_eq_false, false_or, or_self, Nat.reduceGT, Option.isSome_some, Bool.and_self, Nat.zero_add, Nat.mul_one, List.length_map, List.take_length, Int.cast_ofNat_Int, Int.reduceLE, Int.reduceLT, Int.reduceGE, Int.reduceGT, Int.reduceEq, Int.reduceNe, Int.le_refl, Nat.le_refl, Nat.reduceAdd, ne_eq, not_false_eq_true, reduceCtorEq, beq_true, beq_false, BEq.rfl, Bool.not_true, Bool.not_false, decide_true, decide_false, exists_prop, h3, map_at' WordG.av _ _ _ hw', WordG.av, WordG.cs]
    intro v hv'
    have hds := fun T cs => Hp.del_set _ _ T cs hv'.1
    refine brK_mk (fun h4 => ?_) (fun h4 => ?_) <;> simp only [go_sem, Int.natCast_nonneg, Nat.reduceEqDiff, Nat.reduceAdd, Nat.reduceSub, Nat.reduceLT, Nat.reduceMul, Nat.reduceBEq, Nat.reduceLeDiff, ↓reduceIte, Int.toNat_natCast, Int.reduceToNat, Int.toNat_zero, Int.toNat_one, not_true_eq_false, false_or, or_self, Nat.reduceGT, Option.isSome_some, Bool.and_self, Nat.zero_add, Nat.mul_one, List.length_map, List.take_length, Int.cast_ofNat_Int, Int.reduceLE, Int.reduceLT, Int.reduceGE, Int.reduceGT, Int.reduceEq, Int.reduceNe, Int.le_refl, Nat.le_refl, Nat.reduceAdd, ne_eq, not_false_eq_true, reduceCtorEq, beq_true, beq_false, BEq.rfl, Bool.not_true, Bool.not_false, decide_true, decide_false, exists_prop, h4, hds]
    · have hmem := hv w (List.mem_of_getElem? hw') h4
      obtain ⟨i, q1, q2, q3⟩ := placeL_some 0 hmem
      rw [Nat.zero_add] at q1
      have hii : (i : Int).toNat = i := by omega
      have hiL : i < L.length := (List.getElem?_eq_some_iff.1 q2).1
      refine callX_by (place_calls h1 L w.n _) ?_
      rintro r hp' ⟨rfl, rfl⟩
      simp only [go_sem, Int.natCast_nonneg, Nat.reduceEqDiff, Nat.reduceAdd, Nat.reduceSub, Nat.reduceLT, Nat.reduceMul, Nat.reduceBEq, Nat.reduceLeDiff, ↓reduceIte, Int.toNat_natCast, Int.reduceToNat, Int.toNat_zero, Int.toNat_one, not_true_eq_false, false_or, or_self, Nat.reduceGT, Option.isSome_some, Bool.and_self, Nat.zero_add, Nat.mul_one, List.length_map, List.take_length, Int.cast_ofNat_Int, Int.reduceLE, Int.reduceLT, Int.reduceGE, Int.reduceGT, Int.reduceEq, Int.reduceNe, Int.le_refl, Nat.le_refl, Nat.reduceAdd, ne_eq, not_false_eq_true, reduceCtorEq, beq_true, beq_false, BEq.rfl, Bool.not_true, Bool.not_false, decide_true, decide_false, exists_prop, q1, hii, map_at' iv _ _ _ (toL_at q2), iv]
      refine ⟨rfl, by simp, fun hd => ?_⟩
      refine append_by (a := wordsAV h7 ((ws.take k).map (mvWord G L))) (b := .lst 2 hd [WordG.av (mvWord G L w)]) (l1 := [(65, 2, hd)]) (l2 := hp.sp) (h := h7) (h2 := hd) Try.k32 Try.s65 Try.y65 Try.z65 rfl (by decide)
        (by simp [go_sem, wordsAV]) (Cast.refl _) (by simp [go_sem, WordG.av, WordG.cs, mvWord, h4]) (Cast.refl _) (by simp [go_sem]) (by simp [go_sem, WordG.av, WordG.cs]) (by simp [maxLen]; omega) (by simp; omega) (by simp [go_sem]) (fun h' => ?_)
      simp only [go_sem, Int.natCast_nonneg, Nat.reduceEqDiff, Nat.reduceAdd, Nat.reduceSub, Nat.reduceLT, Nat.reduceMul, Nat.reduceBEq, Nat.reduceLeDiff, ↓reduceIte, Int.toNat_natCast, Int.reduceToNat, Int.toNat_zero, Int.toNat_one, not_true_eq_false, false_or, or_self, Nat.reduceGT, Option.isSome_some, Bool.and_self, Nat.zero_add, Nat.mul_one, List.length_map, List.take_length, Int.cast_ofNat_Int, Int.reduceLE, Int.reduceLT, Int.reduceGE, Int.reduceGT, Int.reduceEq, Int.reduceNe, Int.le_refl, Nat.le_refl, Nat.reduceAdd, ne_eq, not_false_eq_true, reduceCtorEq, beq_true, beq_false, BEq.rfl, Bool.not_true, Bool.not_false, decide_true, decide_false, exists_prop, hwu]
      refine ⟨(k + 1, h'), by simp only; omega, by simp only; omega, le_mkSl rfl ?_ ?_⟩
      · simp only [go_sem, Int.natCast_nonneg, Nat.reduceEqDiff, Nat.reduceAdd, Nat.reduceSub, Nat.reduceLT, Nat.reduceMul, Nat.reduceBEq, Nat.reduceLeDiff, ↓reduceIte, Int.toNat_natCast, Int.reduceToNat, Int.toNat_zero, Int.toNat_one, not_true_eq_false, false_or, or_self, Nat.reduceGT, Option.isSome_some, Bool.and_self, Nat.zero_add, Nat.mul_one, List.length_map, List.take_length, Int.cast_ofNat_Int, Int.reduceLE, Int.reduceLT, Int.reduceGE, Int.reduceGT, Int.reduceEq, Int.reduceNe, Int.le_refl, Nat.le_refl, Nat.reduceAdd, ne_eq, not_false_eq_true, reduceCtorEq, beq_true, beq_false, BEq.rfl, Bool.not_true, Bool.not_false, decide_true, decide_false, exists_prop]
        exact le_fresh (v := v) (T := 65) hv'.1 rfl rfl (List.sublist_cons_self _ _) rfl
      · simp [go_sem, intsAV, wordsAV, htk]
    · refine ⟨rfl, by simp, fun hd => ?_⟩
      refine append_by (a := wordsAV h7 ((ws.take k).map (mvWord G L))) (b := .lst 2 hd [WordG.av (mvWord G L w)]) (l1 := [(65, 2, hd)]) (l2 := hp.sp) (h := h7) (h2 := hd) Try.k32 Try.s65 Try.y65 Try.z65 rfl (by decide)
        (by simp [go_sem, wordsAV]) (Cast.refl _) (by simp [go_sem, WordG.av, WordG.cs, mvWord, h4]) (Cast.refl _) (by simp [go_sem]) (by simp [go_sem, WordG.av, WordG.cs]) (by simp [maxLen]; omega) (by simp; omega) (by simp [go_sem]) (fun h' => ?_)
      simp only [go_sem, Int.natCast_nonneg, Nat.reduceEqDiff, Nat.reduceAdd, Nat.reduceSub, Nat.reduceLT, Nat.reduceMul, Nat.reduceBEq, Nat.reduceLeDiff, ↓reduceIte, Int.toNat_natCast, Int.reduceToNat, Int.toNat_zero, Int.toNat_one, not_true_eq_false, false_or, or_self, Nat.reduceGT, Option.isSome_some, Bool.and_self, Nat.zero_add, Nat.mul_one, List.length_map, List.take_length, Int.cast_ofNat_Int, Int.reduceLE, Int.reduceLT, Int.reduceGE, Int.reduceGT, Int.reduceEq, Int.reduceNe, Int.le_refl, Nat.le_refl, Nat.reduceAdd, ne_eq, not_false_eq_true, reduceCtorEq, beq_true, beq_false, BEq.rfl, Bool.not_true, Bool.not_false, decide_true, decide_false, exists_prop, hwu]
      refine ⟨(k + 1, h'), by simp only; omega, by simp only; omega, le_mkSl rfl ?_ ?_⟩
      · simp only [go_sem, Int.natCast_nonneg, Nat.reduceEqDiff, Nat.reduceAdd, Nat.reduceSub, Nat.reduceLT, Nat.reduceMul, Nat.reduceBEq, Nat.reduceLeDiff, ↓reduceIte, Int.toNat_natCast, Int.reduceToNat, Int.toNat_zero, Int.toNat_one, not_true_eq_false, false_or, or_self, Nat.reduceGT, Option.isSome_some, Bool.and_self, Nat.zero_add, Nat.mul_one, List.length_map, List.take_length, Int.cast_ofNat_Int, Int.reduceLE, Int.reduceLT, Int.reduceGE, Int.reduceGT, Int.reduceEq, Int.reduceNe, Int.le_refl, Nat.le_refl, Nat.reduceAdd, ne_eq, not_false_eq_true, reduceCtorEq, beq_true, beq_false, BEq.rfl, Bool.not_true, Bool.not_false, decide_true, decide_false, exists_prop]
        exact le_fresh (v := v) (T := 65) hv'.1 rfl rfl (List.sublist_cons_self _ _) rfl
      · simp [go_sem, intsAV, wordsAV, htk]
  · have e : k = ws.length := by simp at h3; omega
    subst e
    exact ret_le (hp' := hp) (Hp.le_addSp _ _) ⟨⟨h7, by rw [List.take_length]⟩, rfl⟩

/-! ### Sums and lists over the objects -/
theorem used_calls (size : Int) (ho : Value) {G : List ObjG} {l : List RObj} (hm : MR G l) (hN : endO G ≤ 4194304) (hp : Hp) : ACalls Try.prog 19 [modelAV size ho l] hp (fun r hp' => r = .v (.int .i64 (endO G : Nat)) ∧ hp' = hp) := by
  have hlen := mr_len hm
  have hGl := len_endO G
  have hob := mr_obj hm
  refine acalls_of Try.func19 rfl (by decide +kernel) (awp_sound (mu := []) _ _ _ ?_)
  simp only [go_sem, Int.natCast_nonneg, Nat.reduceEqDiff, Nat.reduceAdd, Nat.reduceSub, Nat.reduceLT, Nat.reduceMul, Nat.reduceBEq, Nat.reduceLeDiff, ↓reduceIte, Int.toNat_natCast, Int.reduceToNat, Int.toNat_zero, Int.toNat_one, not_true_eq_false, false_or, or_self, Nat.reduceGT, Option.isSome_some, Bool.and_self, Nat.zero_add, Nat.mul_one, List.length_map, List.take_length, Int.cast_ofNat_Int, Int.reduceLE, Int.reduceLT, Int.reduceGE, Int.reduceGT, Int.reduceEq, Int.reduceNe, Int.le_refl, Nat.le_refl, Nat.reduceAdd, ne_eq, not_false_eq_true, reduceCtorEq, beq_true, beq_false, BEq.rfl, Bool.not_true, Bool.not_false, decide_true, decide_false, exists_prop, modelAV, modelC, objsAV]
  intro p
  refine aw_loopX 21 (fun k : Nat => [(3, .v (.int .i64 (endO (G.take k) : Nat))), (7, .lst 3 ho (l.map RObj.av)), (8, .v (.int .i64 l.length)), (9, .v (.int .i64 k))])
    (fun _ => hp) (fun k => k ≤ l.length) (fun k => l.length - k) 0 (Nat.zero_le _) (le_mkSl rfl (Hp.le_refl _) (by simp [go_sem, endO])) ?_
  intro k hk
  refine awp_sound (mu := []) _ _ _ ?_
  simp only [go_sem, Int.natCast_nonneg, Nat.reduceEqDiff, Nat.reduceAdd, Nat.reduceSub, Nat.reduceLT, Nat.reduceMul, Nat.reduceBEq, Nat.reduceLeDiff, ↓reduceIte, Int.toNat_natCast, Int.reduceToNat, Int.toNat_zero, Int.toNat_one, not_true_eq_false, false_or, or_self, Nat.reduceGT, Option.isSome_some, Bool.and_self, Nat.zero_add, Nat.mul_one, List.length_map, List.take_length, Int.cast_ofNat_Int, Int.reduceLE, Int.reduceLT, Int.reduceGE, Int.reduceGT, Int.reduceEq, Int.reduceNe, Int.le_refl, Nat.le_refl, Nat.reduceAdd, ne_eq, not_false_eq_true, reduceCtorEq, beq_true, beq_false, BEq.rfl, Bool.not_true, Bool.not_false, decide_true, decide_false, exists_prop]
  refine brK_mk (fun h1 => ?_) (fun h1 => ?_) <;> simp only [go_sem, Int.natCast_nonneg, Nat.reduceEqDiff, Nat.reduceAdd, Nat.reduceSub, Nat.reduceLT, Nat.reduceMul, Nat.reduceBEq, Nat.reduceLeDiff, ↓reduceIte, Int.toNat_natCast, Int.reduceToNat, Int.toNat_zero, Int.toNat_one, not_true_eq_false, false_or, or_self, Nat.reduceGT, Option.isSome_some, Bool.and_self, Nat.zero_add, Nat.mul_one, List.length_map, List.take_length, Int.cast_ofNat_Int, Int.reduceLE, Int.reduceLT, Int.reduceGE, Int.reduceGT, Int.reduceEq, Int.reduceNe, Int.le_refl, Nat.le_refl, Nat.reduceAdd, ne_eq, not_false_eq_true, reduceCtorEq, beq_true, beq_false, BEq.rfl, Bool.not_true, Bool.not_false, decide_true, decide_false, exists_prop, h1]
  · have hk' : k < l.length := by simpa using h1
    obtain ⟨r, hr⟩ := some_at' l k hk'
    have hGk : G[k]? = some ⟨r.tag, r.fs⟩ := by rw [← hob, List.getElem?_map, hr]; rfl
    have htk : G.take (k + 1) = G.take k ++ [⟨r.tag, r.fs⟩] := by rw [List.take_add_one, hGk]; rfl
    have hes : endO (G.take (k + 1)) = endO (G.take k) + (r.fs.length + 1) := by rw [htk, endO_app]; simp [endO, osz]
    have hle : endO (G.take (k + 1)) ≤ endO G := by
      conv => rhs; rw [← List.take_append_drop (k + 1) G, endO_app]
      omega
    have hwu : IntKind.i64.wrap ((k : Int) + 1) = ((k + 1 : Nat) : Int) := IntWalk.i64_in _ (by omega)
    have hwe : IntKind.i64.wrap (((endO (G.take k) : Nat) : Int) + (1 + (r.fs.length : Int))) = ((endO (G.take (k + 1)) : Nat) : Int) := by
      rw [show ((endO (G.take k) : Nat) : Int) + (1 + (r.fs.length : Int)) = ((endO (G.take (k + 1)) : Nat) : Int) by omega]
      exact IntWalk.i64_in _ (by omega)
    simp only [go_sem, Int.natCast_nonneg, Nat.reduceEqDiff, Nat.reduceAdd, Nat.reduceSub, Nat.reduceLT, Nat.reduceMul, Nat.reduceBEq, Nat.reduceLeDiff, ↓reduceIte, Int.toNat_natCast, Int.reduceToNat, Int.toNat_zero, Int.toNat_one, not_true_eq_false, false_or, or_self, Nat.reduceGT, Option.isSome_some, Bool.and_self, Nat.zero_add, Nat.mul_one, List.length_map, List.take_length, Int.cast_ofNat_Int, Int.reduceLE, Int.reduceLT, Int.reduceGE, Int.reduceGT, Int.reduceEq, Int.reduceNe, Int.le_refl, Nat.le_refl, Nat.reduceAdd, ne_eq, not_false_eq_true, reduceCtorEq, beq_true, beq_false, BEq.rfl, Bool.not_true, Bool.not_false, decide_true, decide_false, exists_prop, h1, map_at' RObj.av _ _ _ hr, RObj.av, RObj.cs]
    intro v hv
    have hds := fun T cs => Hp.del_set _ _ T cs hv.1
    simp only [hds]
    refine callX_by (cells_calls r.fs.length (by omega) (by omega) _) ?_
    rintro r' hp' ⟨rfl, rfl⟩
    simp only [go_sem, Int.natCast_nonneg, Nat.reduceEqDiff, Nat.reduceAdd, Nat.reduceSub, Nat.reduceLT, Nat.reduceMul, Nat.reduceBEq, Nat.reduceLeDiff, ↓reduceIte, Int.toNat_natCast, Int.reduceToNat, Int.toNat_zero, Int.toNat_one, not_true_eq_false, false_or, or_self, Nat.reduceGT, Option.isSome_some, Bool.and_self, Nat.zero_add, Nat.mul_one, List.length_map, List.take_length, Int.cast_ofNat_Int, Int.reduceLE, Int.reduceLT, Int.reduceGE, Int.reduceGT, Int.reduceEq, Int.reduceNe, Int.le_refl, Nat.le_refl, Nat.reduceAdd, ne_eq, not_false_eq_true, reduceCtorEq, beq_true, beq_false, BEq.rfl, Bool.not_true, Bool.not_false, decide_true, decide_false, exists_prop, hwe, hds]
    refine ⟨k + 1, by omega, by omega, le_mkSl rfl (Hp.le_refl _) ?_⟩
    simp [go_sem, hwu]
  · have e : k = l.length := by simp at h1; omega
    subst e
    exact ret_same ⟨by rw [hlen, List.take_length], rfl⟩

theorem addresses_calls (size : Int) (ho : Value) {G : List ObjG} {l : List RObj} (hm : MR G l) (hN : endO G ≤ 4194304) (hp : Hp) : ACalls Try.prog 22 [modelAV size ho l] hp (fun r hp' => (∃ h, r = intsAV h (addrsF 0 G)) ∧ hp' = hp) := by
  have hlen := mr_len hm
  have hGl := len_endO G
  have hob := mr_adr hm
  refine acalls_addNil 3 1 ?_
  refine acalls_of Try.func22 rfl (by decide +kernel) (awp_sound (mu := []) _ _ _ ?_)
  simp only [go_sem, Int.natCast_nonneg, Nat.reduceEqDiff, Nat.reduceAdd, Nat.reduceSub, Nat.reduceLT, Nat.reduceMul, Nat.reduceBEq, Nat.reduceLeDiff, ↓reduceIte, Int.toNat_natCast, Int.reduceToNat, Int.toNat_zero, Int.toNat_one, not_true_eq_false, false_or, or_self, Nat.reduceGT, Option.isSome_some, Bool.and_self, Nat.zero_add, Nat.mul_one, List.length_map, List.take_length, Int.cast_ofNat_Int, Int.reduceLE, Int.reduceLT, Int.reduceGE, Int.reduceGT, Int.reduceEq, Int.reduceNe, Int.le_refl, Nat.le_refl, Nat.reduceAdd, ne_eq, not_false_eq_true, reduceCtorEq, beq_true, beq_false, BEq.rfl, Bool.not_true, Bool.not_false, decide_true, decide_false, exists_prop, modelAV, modelC, objsAV]
  intro p
  refine aw_loopX 20 (fun x : Nat × Value => [(3, intsAV x.2 ((l.take x.1).map RObj.adr)), (7, .lst 3 ho (l.map RObj.av)), (8, .v (.int .i64 l.length)), (9, .v (.int .i64 x.1))])
    (fun x => hp.setSp ((3, 1, x.2) :: hp.sp)) (fun x => x.1 ≤ l.length) (fun x => l.length - x.1) (0, .slice none 0 0) (Nat.zero_le _) (le_of_cast rfl (Hp.le_refl _) (by simp [go_sem, Cast.refl, intsAV]; exact Cast.nil 1)) ?_
  rintro ⟨k, h3⟩ hk
  simp only at hk
  refine awp_sound (mu := []) _ _ _ ?_
  simp only [go_sem, Int.natCast_nonneg, Nat.reduceEqDiff, Nat.reduceAdd, Nat.reduceSub, Nat.reduceLT, Nat.reduceMul, Nat.reduceBEq, Nat.reduceLeDiff, ↓reduceIte, Int.toNat_natCast, Int.reduceToNat, Int.toNat_zero, Int.toNat_one, not_true_eq_false, false_or, or_self, Nat.reduceGT, Option.isSome_some, Bool.and_self, Nat.zero_add, Nat.mul_one, List.length_map, List.take_length, Int.cast_ofNat_Int, Int.reduceLE, Int.reduceLT, Int.reduceGE, Int.reduceGT, Int.reduceEq, Int.reduceNe, Int.le_refl, Nat.le_refl, Nat.reduceAdd, ne_eq, not_false_eq_true, reduceCtorEq, beq_true, beq_false, BEq.rfl, Bool.not_true, Bool.not_false, decide_true, decide_false, exists_prop, intsAV]
  refine brK_mk (fun h1 => ?_) (fun h1 => ?_) <;> simp only [go_sem, Int.natCast_nonneg, Nat.reduceEqDiff, Nat.reduceAdd, Nat.reduceSub, Nat.reduceLT, Nat.reduceMul, Nat.reduceBEq, Nat.reduceLeDiff, ↓reduceIte, Int.toNat_natCast, Int.reduceToNat, Int.toNat_zero, Int.toNat_one, not_true_eq_false, false_or, or_self, Nat.reduceGT, Option.isSome_some, Bool.and_self, Nat.zero_add, Nat.mul_one, List.length_map, List.take_length, Int.cast_ofNat_Int, Int.reduceLE, Int.reduceLT, Int.reduceGE, Int.reduceGT, Int.reduceEq, Int.reduceNe, Int.le_refl, Nat.le_refl, Nat.reduceAdd, ne_eq, not_false_eq_true, reduceCtorEq, beq_true, beq_false, BEq.rfl, Bool.not_true, Bool.not_false, decide_true, decide_false, exists_prop, h1]
  · have hk' : k < l.length := by simpa using h1
    obtain ⟨r, hr⟩ := some_at' l k hk'
    have htk : (l.take (k + 1)).map RObj.adr = (l.take k).map RObj.adr ++ [r.adr] := by rw [List.take_add_one, hr]; simp
    have hwu : IntKind.i64.wrap ((k : Int) + 1) = ((k + 1 : Nat) : Int) := IntWalk.i64_in _ (by omega)
    simp only [go_sem, Int.natCast_nonneg, Nat.reduceEqDiff, Nat.reduceAdd, Nat.reduceSub, Nat.reduceLT, Nat.reduceMul, Nat.reduceBEq, Nat.reduceLeDiff, ↓reduceIte, Int.toNat_natCast, Int.reduceToNat, Int.toNat_zero, Int.toNat_one, not_true_eq_false, false_or, or_self, Nat.reduceGT, Option.isSome_some, Bool.and_self, Nat.zero_add, Nat.mul_one, List.length_map, List.take_length, Int.cast_ofNat_Int, Int.reduceLE, Int.reduceLT, Int.reduceGE, Int.reduceGT, Int.reduceEq, Int.reduceNe, Int.le_refl, Nat.le_refl, Nat.reduceAdd, ne_eq, not_false_eq_true, reduceCtorEq, beq_true, beq_false, BEq.rfl, Bool.not_true, Bool.not_false, decide_true, decide_false, exists_prop, h1, map_at' RObj.av _ _ _ hr, RObj.av, RObj.cs]
    intro v hv
    have hds := fun T cs => Hp.del_set _ _ T cs hv.1
    simp only [hds]
    refine ⟨rfl, by simp, fun hd => ?_⟩
    refine append_by (a := intsAV h3 ((l.take k).map RObj.adr)) (b := .lst 1 hd [iv r.adr]) (l1 := [(3, 1, hd)]) (l2 := hp.sp) (h := h3) (h2 := hd) Try.k41 Try.s3 Try.y3 Try.z3 rfl (by decide)
      (by simp [go_sem, intsAV]) (Cast.refl _) (by simp [go_sem, iv]) (Cast.refl _) (by simp [go_sem]) (by simp [go_sem, iv]) (by simp [maxLen]; omega) (by simp; omega) (by simp [go_sem]) (fun h' => ?_)
    simp only [go_sem, Int.natCast_nonneg, Nat.reduceEqDiff, Nat.reduceAdd, Nat.reduceSub, Nat.reduceLT, Nat.reduceMul, Nat.reduceBEq, Nat.reduceLeDiff, ↓reduceIte, Int.toNat_natCast, Int.reduceToNat, Int.toNat_zero, Int.toNat_one, not_true_eq_false, false_or, or_self, Nat.reduceGT, Option.isSome_some, Bool.and_self, Nat.zero_add, Nat.mul_one, List.length_map, List.take_length, Int.cast_ofNat_Int, Int.reduceLE, Int.reduceLT, Int.reduceGE, Int.reduceGT, Int.reduceEq, Int.reduceNe, Int.le_refl, Nat.le_refl, Nat.reduceAdd, ne_eq, not_false_eq_true, reduceCtorEq, beq_true, beq_false, BEq.rfl, Bool.not_true, Bool.not_false, decide_true, decide_false, exists_prop, hwu]
    refine ⟨(k + 1, h'), by simp only; omega, by simp only; omega, le_mkSl rfl ?_ ?_⟩
    · exact ⟨fun _ _ h => h, fun _ _ h => h, List.sublist_cons_self _ _, fun _ h => h⟩
    · simp [go_sem, intsAV, htk]
  · have e : k = l.length := by simp at h1; omega
    subst e
    exact ret_le (hp' := hp) (Hp.le_addSp _ _) ⟨⟨h3, by rw [List.take_length, hob]⟩, rfl⟩
end Go.Proofs.Ytfdlfcafcjhpmaa
/- The reference for heaps: placing. -/
set_option linter.unusedSimpArgs false
set_option linter.unusedVariables false
set_option maxRecDepth 20000
set_option maxHeartbeats 4000000
namespace Go.Proofs.Ytfdlfcafcjhpmaa
open Go.AL

theorem ones_obj (l : List RObj) : ((l.map RObj.av).flatMap AV.cells).all AV.one = true := by
  induction l with
  | nil => rfl
  | cons a l ih => rw [List.map_cons, List.flatMap_cons, List.all_append, ih]; rfl
def allocG (size : Int) (G : List ObjG) (tag : Int) (fs : List WordG) : List ObjG := if allocE size (spOf G) tag fs = 0 then G ++ [⟨tag, fs⟩] else G
def RAllocR (size : Int) (G : List ObjG) (tag : Int) (fs : List WordG) (hp : Hp) (r : AV) (hp' : Hp) : Prop :=
  (∃ ho' l', r = .tup [modelAV size ho' l', iv (if allocE size (spOf G) tag fs = 0 then (endO G : Nat) else 0), iv (allocE size (spOf G) tag fs)] ∧ MR (allocG size G tag fs) l') ∧ hp' = hp
theorem ralloc_calls (size : Int) (ho hf : Value) {G : List ObjG} {l : List RObj} (hm : MR G l) (hN : endO G ≤ 2097152) (tag : Int) (fs : List WordG) (hp : Hp) :
    ACalls Try.prog 85 [modelAV size ho l, iv tag, wordsAV hf fs] hp (RAllocR size G tag fs hp) := by
  have hGl := len_endO G
  have hlen := mr_len hm
  refine acalls_of Try.func85 rfl (by decide +kernel) (awp_sound (mu := [6]) _ _ _ ?_)
  simp only [go_sem, Int.natCast_nonneg, Nat.reduceEqDiff, Nat.reduceAdd, Nat.reduceSub, Nat.reduceLT, Nat.reduceMul, Nat.reduceBEq, Nat.reduceLeDiff, ↓reduceIte, Int.toNat_natCast, Int.reduceToNat, Int.toNat_zero, Int.toNat_one, not_true_eq_false, false_or, or_self, Nat.reduceGT, Option.isSome_some, Bool.and_self, Nat.zero_add, Nat.mul_one, List.length_map, List.take_length, Int.cast_ofNat_Int, Int.reduceLE, Int.reduceLT, Int.reduceGE, Int.reduceGT, Int.reduceEq, Int.reduceNe, Int.le_refl, Nat.le_refl, Nat.reduceAdd, ne_eq, not_false_eq_true, reduceCtorEq, beq_true, beq_false, BEq.rfl, Bool.not_true, Bool.not_false, decide_true, decide_false, exists_prop, modelAV, iv, wordsAV]
  intro p b hb
  have hds := fun T cs => Hp.del_set _ _ T cs hb.1
  have bad : ∀ n : Int, n ≠ 0 → allocE size (spOf G) tag fs = n → RAllocR size G tag fs hp (.tup [modelAV size ho l, .v (.int .i64 0), .v (.int .i64 n)]) hp := fun n hn e =>
    ⟨⟨ho, l, by rw [e, if_neg hn]; rfl, by rw [allocG, e, if_neg hn]; exact hm⟩, rfl⟩
  have hval : validR l fs = validL (spOf G).s fs := mr_valid hm fs
  have fin : ∀ cs, hp.le (hp.setBlk b 31 cs) := fun cs => Hp.le_setBlk hp b _ _ hb.1
  refine brK_mk (fun a1 => ?_) (fun a1 => ?_) <;> simp only [go_sem, Int.natCast_nonneg, Nat.reduceEqDiff, Nat.reduceAdd, Nat.reduceSub, Nat.reduceLT, Nat.reduceMul, Nat.reduceBEq, Nat.reduceLeDiff, ↓reduceIte, Int.toNat_natCast, Int.reduceToNat, Int.toNat_zero, Int.toNat_one, not_true_eq_false, false_or, or_self, Nat.reduceGT, Option.isSome_some, Bool.and_self, Nat.zero_add, Nat.mul_one, List.length_map, List.take_length, Int.cast_ofNat_Int, Int.reduceLE, Int.reduceLT, Int.reduceGE, Int.reduceGT, Int.reduceEq, Int.reduceNe, Int.le_refl, Nat.le_refl, Nat.reduceAdd, ne_eq, not_false_eq_true, reduceCtorEq, beq_true, beq_false, BEq.rfl, Bool.not_true, Bool.not_false, decide_true, decide_false, exists_prop, a1]
  · simp only [modelC, objsAV, go_sem, Int.natCast_nonneg, Nat.reduceEqDiff, Nat.reduceAdd, Nat.reduceSub, Nat.reduceLT, Nat.reduceMul, Nat.reduceBEq, Nat.reduceLeDiff, ↓reduceIte, Int.toNat_natCast, Int.reduceToNat, Int.toNat_zero, Int.toNat_one, not_true_eq_false, false_or, or_self, Nat.reduceGT, Option.isSome_some, Bool.and_self, Nat.zero_add, Nat.mul_one, List.length_map, List.take_length, Int.cast_ofNat_Int, Int.reduceLE, Int.reduceLT, Int.reduceGE, Int.reduceGT, Int.reduceEq, Int.reduceNe, Int.le_refl, Nat.le_refl, Nat.reduceAdd, ne_eq, not_false_eq_true, reduceCtorEq, beq_true, beq_false, BEq.rfl, Bool.not_true, Bool.not_false, decide_true, decide_false, exists_prop]
    exact ret_le (fin _) (bad 1 (by decide) (by simp only [allocE, a1, Bool.true_or, if_true]))
  · refine brK_mk (fun a2 => ?_) (fun a2 => ?_) <;> simp only [go_sem, Int.natCast_nonneg, Nat.reduceEqDiff, Nat.reduceAdd, Nat.reduceSub, Nat.reduceLT, Nat.reduceMul, Nat.reduceBEq, Nat.reduceLeDiff, ↓reduceIte, Int.toNat_natCast, Int.reduceToNat, Int.toNat_zero, Int.toNat_one, not_true_eq_false, false_or, or_self, Nat.reduceGT, Option.isSome_some, Bool.and_self, Nat.zero_add, Nat.mul_one, List.length_map, List.take_length, Int.cast_ofNat_Int, Int.reduceLE, Int.reduceLT, Int.reduceGE, Int.reduceGT, Int.reduceEq, Int.reduceNe, Int.le_refl, Nat.le_refl, Nat.reduceAdd, ne_eq, not_false_eq_true, reduceCtorEq, beq_true, beq_false, BEq.rfl, Bool.not_true, Bool.not_false, decide_true, decide_false, exists_prop, a1, a2, List.length_map]
    · simp only [modelC, objsAV, go_sem, Int.natCast_nonneg, Nat.reduceEqDiff, Nat.reduceAdd, Nat.reduceSub, Nat.reduceLT, Nat.reduceMul, Nat.reduceBEq, Nat.reduceLeDiff, ↓reduceIte, Int.toNat_natCast, Int.reduceToNat, Int.toNat_zero, Int.toNat_one, not_true_eq_false, false_or, or_self, Nat.reduceGT, Option.isSome_some, Bool.and_self, Nat.zero_add, Nat.mul_one, List.length_map, List.take_length, Int.cast_ofNat_Int, Int.reduceLE, Int.reduceLT, Int.reduceGE, Int.reduceGT, Int.reduceEq, Int.reduceNe, Int.le_refl, Nat.le_refl, Nat.reduceAdd, ne_eq, not_false_eq_true, reduceCtorEq, beq_true, beq_false, BEq.rfl, Bool.not_true, Bool.not_false, decide_true, decide_false, exists_prop]
      exact ret_le (fin _) (bad 1 (by decide) (by simp only [allocE, a1, a2, Bool.true_or, Bool.or_true, if_true]))
    · refine brK_mk (fun a3 => ?_) (fun a3 => ?_) <;> simp only [go_sem, Int.natCast_nonneg, Nat.reduceEqDiff, Nat.reduceAdd, Nat.reduceSub, Nat.reduceLT, Nat.reduceMul, Nat.reduceBEq, Nat.reduceLeDiff, ↓reduceIte, Int.toNat_natCast, Int.reduceToNat, Int.toNat_zero, Int.toNat_one, not_true_eq_false, false_or, or_self, Nat.reduceGT, Option.isSome_some, Bool.and_self, Nat.zero_add, Nat.mul_one, List.length_map, List.take_length, Int.cast_ofNat_Int, Int.reduceLE, Int.reduceLT, Int.reduceGE, Int.reduceGT, Int.reduceEq, Int.reduceNe, Int.le_refl, Nat.le_refl, Nat.reduceAdd, ne_eq, not_false_eq_true, reduceCtorEq, beq_true, beq_false, BEq.rfl, Bool.not_true, Bool.not_false, decide_true, decide_false, exists_prop, a1, a2, a3]
      · simp only [modelC, objsAV, go_sem, Int.natCast_nonneg, Nat.reduceEqDiff, Nat.reduceAdd, Nat.reduceSub, Nat.reduceLT, Nat.reduceMul, Nat.reduceBEq, Nat.reduceLeDiff, ↓reduceIte, Int.toNat_natCast, Int.reduceToNat, Int.toNat_zero, Int.toNat_one, not_true_eq_false, false_or, or_self, Nat.reduceGT, Option.isSome_some, Bool.and_self, Nat.zero_add, Nat.mul_one, List.length_map, List.take_length, Int.cast_ofNat_Int, Int.reduceLE, Int.reduceLT, Int.reduceGE, Int.reduceGT, Int.reduceEq, Int.reduceNe, Int.le_refl, Nat.le_refl, Nat.reduceAdd, ne_eq, not_false_eq_true, reduceCtorEq, beq_true, beq_false, BEq.rfl, Bool.not_true, Bool.not_false, decide_true, decide_false, exists_prop]
        exact ret_le (fin _) (bad 1 (by decide) (by simp only [allocE, a1, a2, a3, Bool.true_or, Bool.or_true, if_true]))
      · simp only [modelC, objsAV, go_sem, Int.natCast_nonneg, Nat.reduceEqDiff, Nat.reduceAdd, Nat.reduceSub, Nat.reduceLT, Nat.reduceMul, Nat.reduceBEq, Nat.reduceLeDiff, ↓reduceIte, Int.toNat_natCast, Int.reduceToNat, Int.toNat_zero, Int.toNat_one, not_true_eq_false, false_or, or_self, Nat.reduceGT, Option.isSome_some, Bool.and_self, Nat.zero_add, Nat.mul_one, List.length_map, List.take_length, Int.cast_ofNat_Int, Int.reduceLE, Int.reduceLT, Int.reduceGE, Int.reduceGT, Int.reduceEq, Int.reduceNe, Int.le_refl, Nat.le_refl, Nat.reduceAdd, ne_eq, not_false_eq_true, reduceCtorEq, beq_true, beq_false, BEq.rfl, Bool.not_true, Bool.not_false, decide_true, decide_false, exists_prop]
        refine callX_by (rvalid_calls size ho hf l fs _) ?_
        rintro r hp' ⟨rfl, rfl⟩
        have hall : (decide (tag < 0) || decide (tag > 100000) || decide ((fs.length : Int) > 1024)) = false := by simp only [a1, a2, a3, Bool.or_self]
        cases a4 : validL (spOf G).s fs with
        | false =>
          simp only [go_sem, Int.natCast_nonneg, Nat.reduceEqDiff, Nat.reduceAdd, Nat.reduceSub, Nat.reduceLT, Nat.reduceMul, Nat.reduceBEq, Nat.reduceLeDiff, ↓reduceIte, Int.toNat_natCast, Int.reduceToNat, Int.toNat_zero, Int.toNat_one, not_true_eq_false, false_or, or_self, Nat.reduceGT, Option.isSome_some, Bool.and_self, Nat.zero_add, Nat.mul_one, List.length_map, List.take_length, Int.cast_ofNat_Int, Int.reduceLE, Int.reduceLT, Int.reduceGE, Int.reduceGT, Int.reduceEq, Int.reduceNe, Int.le_refl, Nat.le_refl, Nat.reduceAdd, ne_eq, not_false_eq_true, reduceCtorEq, beq_true, beq_false, BEq.rfl, Bool.not_true, Bool.not_false, decide_true, decide_false, exists_prop, hval, a4, objsAV]
          exact ret_le (fin _) (bad 171 (by decide) (by simp only [allocE, hall, a4, Bool.false_eq_true, if_false]))
        | true =>
          simp only [go_sem, Int.natCast_nonneg, Nat.reduceEqDiff, Nat.reduceAdd, Nat.reduceSub, Nat.reduceLT, Nat.reduceMul, Nat.reduceBEq, Nat.reduceLeDiff, ↓reduceIte, Int.toNat_natCast, Int.reduceToNat, Int.toNat_zero, Int.toNat_one, not_true_eq_false, false_or, or_self, Nat.reduceGT, Option.isSome_some, Bool.and_self, Nat.zero_add, Nat.mul_one, List.length_map, List.take_length, Int.cast_ofNat_Int, Int.reduceLE, Int.reduceLT, Int.reduceGE, Int.reduceGT, Int.reduceEq, Int.reduceNe, Int.le_refl, Nat.le_refl, Nat.reduceAdd, ne_eq, not_false_eq_true, reduceCtorEq, beq_true, beq_false, BEq.rfl, Bool.not_true, Bool.not_false, decide_true, decide_false, exists_prop, hval, a4]
          have hfl : fs.length ≤ 1024 := by simp at a3; omega
          refine draw_by (mu := [6]) (fun _ => True) (.take 0 (.take 2 (.take 3 (.take 6 (.take 7 (.br 1 (.br 4 (.take 5 (.take 8 (.take 9 (.done)))) (.stop)) (.stop))))))) (by decide +kernel) trivial (by decide +kernel) (by decide +kernel) ?_
          simp only [go_sem, Int.natCast_nonneg, Nat.reduceEqDiff, Nat.reduceAdd, Nat.reduceSub, Nat.reduceLT, Nat.reduceMul, Nat.reduceBEq, Nat.reduceLeDiff, ↓reduceIte, Int.toNat_natCast, Int.reduceToNat, Int.toNat_zero, Int.toNat_one, not_true_eq_false, false_or, or_self, Nat.reduceGT, Option.isSome_some, Bool.and_self, Nat.zero_add, Nat.mul_one, List.length_map, List.take_length, Int.cast_ofNat_Int, Int.reduceLE, Int.reduceLT, Int.reduceGE, Int.reduceGT, Int.reduceEq, Int.reduceNe, Int.le_refl, Nat.le_refl, Nat.reduceAdd, ne_eq, not_false_eq_true, reduceCtorEq, beq_true, beq_false, BEq.rfl, Bool.not_true, Bool.not_false, decide_true, decide_false, exists_prop, objsAV]
          refine callX_by (end_calls size ho hm (by omega) _) ?_
          rintro r hp2 ⟨rfl, rfl⟩
          simp only [go_sem, Int.natCast_nonneg, Nat.reduceEqDiff, Nat.reduceAdd, Nat.reduceSub, Nat.reduceLT, Nat.reduceMul, Nat.reduceBEq, Nat.reduceLeDiff, ↓reduceIte, Int.toNat_natCast, Int.reduceToNat, Int.toNat_zero, Int.toNat_one, not_true_eq_false, false_or, or_self, Nat.reduceGT, Option.isSome_some, Bool.and_self, Nat.zero_add, Nat.mul_one, List.length_map, List.take_length, Int.cast_ofNat_Int, Int.reduceLE, Int.reduceLT, Int.reduceGE, Int.reduceGT, Int.reduceEq, Int.reduceNe, Int.le_refl, Nat.le_refl, Nat.reduceAdd, ne_eq, not_false_eq_true, reduceCtorEq, beq_true, beq_false, BEq.rfl, Bool.not_true, Bool.not_false, decide_true, decide_false, exists_prop]
          refine callX_by (cells_calls fs.length (by omega) (by omega) _) ?_
          rintro r hp3 ⟨rfl, rfl⟩
          have w2 : IntKind.i64.wrap (((endO G : Nat) : Int) + (1 + (fs.length : Int))) = ((endO G : Nat) : Int) + (1 + (fs.length : Int)) := IntWalk.i64_in _ (by omega)
          simp only [go_sem, Int.natCast_nonneg, Nat.reduceEqDiff, Nat.reduceAdd, Nat.reduceSub, Nat.reduceLT, Nat.reduceMul, Nat.reduceBEq, Nat.reduceLeDiff, ↓reduceIte, Int.toNat_natCast, Int.reduceToNat, Int.toNat_zero, Int.toNat_one, not_true_eq_false, false_or, or_self, Nat.reduceGT, Option.isSome_some, Bool.and_self, Nat.zero_add, Nat.mul_one, List.length_map, List.take_length, Int.cast_ofNat_Int, Int.reduceLE, Int.reduceLT, Int.reduceGE, Int.reduceGT, Int.reduceEq, Int.reduceNe, Int.le_refl, Nat.le_refl, Nat.reduceAdd, ne_eq, not_false_eq_true, reduceCtorEq, beq_true, beq_false, BEq.rfl, Bool.not_true, Bool.not_false, decide_true, decide_false, exists_prop, w2]
          have hcmp : decide (((spOf G).c.length : Int) + 1 + fs.length > size) = decide (((endO G : Nat) : Int) + (1 + (fs.length : Int)) > size) := by
            simp only [spOf, cellsO_len]; congr 1; rw [Int.add_assoc]
          refine brK_mk (fun a5 => ?_) (fun a5 => ?_) <;> simp only [go_sem, Int.natCast_nonneg, Nat.reduceEqDiff, Nat.reduceAdd, Nat.reduceSub, Nat.reduceLT, Nat.reduceMul, Nat.reduceBEq, Nat.reduceLeDiff, ↓reduceIte, Int.toNat_natCast, Int.reduceToNat, Int.toNat_zero, Int.toNat_one, not_true_eq_false, false_or, or_self, Nat.reduceGT, Option.isSome_some, Bool.and_self, Nat.zero_add, Nat.mul_one, List.length_map, List.take_length, Int.cast_ofNat_Int, Int.reduceLE, Int.reduceLT, Int.reduceGE, Int.reduceGT, Int.reduceEq, Int.reduceNe, Int.le_refl, Nat.le_refl, Nat.reduceAdd, ne_eq, not_false_eq_true, reduceCtorEq, beq_true, beq_false, BEq.rfl, Bool.not_true, Bool.not_false, decide_true, decide_false, exists_prop, a5]
          · exact ret_le (fin _) (bad 170 (by decide) (by simp only [allocE, hall, a4, hcmp, a5, Bool.false_eq_true, if_false, if_true]))
          · have e : allocE size (spOf G) tag fs = 0 := by simp only [allocE, hall, a4, hcmp, a5, Bool.false_eq_true, if_false, if_true]
            refine callX_by (end_calls size ho hm (by omega) _) ?_
            rintro r hp4 ⟨rfl, rfl⟩
            simp only [go_sem, Int.natCast_nonneg, Nat.reduceEqDiff, Nat.reduceAdd, Nat.reduceSub, Nat.reduceLT, Nat.reduceMul, Nat.reduceBEq, Nat.reduceLeDiff, ↓reduceIte, Int.toNat_natCast, Int.reduceToNat, Int.toNat_zero, Int.toNat_one, not_true_eq_false, false_or, or_self, Nat.reduceGT, Option.isSome_some, Bool.and_self, Nat.zero_add, Nat.mul_one, List.length_map, List.take_length, Int.cast_ofNat_Int, Int.reduceLE, Int.reduceLT, Int.reduceGE, Int.reduceGT, Int.reduceEq, Int.reduceNe, Int.le_refl, Nat.le_refl, Nat.reduceAdd, ne_eq, not_false_eq_true, reduceCtorEq, beq_true, beq_false, BEq.rfl, Bool.not_true, Bool.not_false, decide_true, decide_false, exists_prop]
            refine ⟨rfl, by simp, fun b2 => ?_⟩
            refine append_by (a := .lst 3 (.slice (some ⟨b2, 0, none⟩) 0 0) []) (b := objsAV ho l) (l1 := []) (l2 := hp.sp) (h := .slice (some ⟨b2, 0, none⟩) 0 0) (h2 := ho) Try.k29 Try.s111 Try.y111 Try.z111 rfl (by decide)
              (by simp [go_sem]) (Cast.refl _) (by simp [go_sem, objsAV]) (Cast.refl _) (by simp [go_sem, Hp.setBlk, Hp.setSp]) (ones_obj l) (by simp [maxLen]; omega) (by simp; omega) (by simp [go_sem]) (fun ho1 => ?_)
            simp only [go_sem, Int.natCast_nonneg, Nat.reduceEqDiff, Nat.reduceAdd, Nat.reduceSub, Nat.reduceLT, Nat.reduceMul, Nat.reduceBEq, Nat.reduceLeDiff, ↓reduceIte, Int.toNat_natCast, Int.reduceToNat, Int.toNat_zero, Int.toNat_one, not_true_eq_false, false_or, or_self, Nat.reduceGT, Option.isSome_some, Bool.and_self, Nat.zero_add, Nat.mul_one, List.length_map, List.take_length, Int.cast_ofNat_Int, Int.reduceLE, Int.reduceLT, Int.reduceGE, Int.reduceGT, Int.reduceEq, Int.reduceNe, Int.le_refl, Nat.le_refl, Nat.reduceAdd, ne_eq, not_false_eq_true, reduceCtorEq, beq_true, beq_false, BEq.rfl, Bool.not_true, Bool.not_false, decide_true, decide_false, exists_prop]
            refine callX_by (rcopy_calls hf fs (by omega) _) ?_
            rintro r hp5 ⟨⟨hfc, rfl⟩, rfl⟩
            simp only [go_sem, Int.natCast_nonneg, Nat.reduceEqDiff, Nat.reduceAdd, Nat.reduceSub, Nat.reduceLT, Nat.reduceMul, Nat.reduceBEq, Nat.reduceLeDiff, ↓reduceIte, Int.toNat_natCast, Int.reduceToNat, Int.toNat_zero, Int.toNat_one, not_true_eq_false, false_or, or_self, Nat.reduceGT, Option.isSome_some, Bool.and_self, Nat.zero_add, Nat.mul_one, List.length_map, List.take_length, Int.cast_ofNat_Int, Int.reduceLE, Int.reduceLT, Int.reduceGE, Int.reduceGT, Int.reduceEq, Int.reduceNe, Int.le_refl, Nat.le_refl, Nat.reduceAdd, ne_eq, not_false_eq_true, reduceCtorEq, beq_true, beq_false, BEq.rfl, Bool.not_true, Bool.not_false, decide_true, decide_false, exists_prop, wordsAV]
            refine ⟨rfl, by simp, fun hd2 => ?_⟩
            refine append_by (a := objsAV ho1 l) (b := .lst 3 hd2 [RObj.av ⟨((endO G : Nat) : Int), tag, hfc, fs⟩]) (l1 := [(111, 3, hd2)]) (l2 := hp.sp) (h := ho1) (h2 := hd2) Try.k29 Try.s111 Try.y111 Try.z111 rfl (by decide)
              (by simp [go_sem, objsAV]) (Cast.refl _) (by simp [go_sem, RObj.av, RObj.cs]) (Cast.refl _) (by simp [go_sem]) (by simp [go_sem, RObj.av, RObj.cs]) (by simp [maxLen]; omega) (by simp; omega) (by simp [go_sem]) (fun ho2 => ?_)
            simp only [go_sem, Int.natCast_nonneg, Nat.reduceEqDiff, Nat.reduceAdd, Nat.reduceSub, Nat.reduceLT, Nat.reduceMul, Nat.reduceBEq, Nat.reduceLeDiff, ↓reduceIte, Int.toNat_natCast, Int.reduceToNat, Int.toNat_zero, Int.toNat_one, not_true_eq_false, false_or, or_self, Nat.reduceGT, Option.isSome_some, Bool.and_self, Nat.zero_add, Nat.mul_one, List.length_map, List.take_length, Int.cast_ofNat_Int, Int.reduceLE, Int.reduceLT, Int.reduceGE, Int.reduceGT, Int.reduceEq, Int.reduceNe, Int.le_refl, Nat.le_refl, Nat.reduceAdd, ne_eq, not_false_eq_true, reduceCtorEq, beq_true, beq_false, BEq.rfl, Bool.not_true, Bool.not_false, decide_true, decide_false, exists_prop]
            refine ret_le (hp' := hp) ?_ ⟨⟨ho2, l ++ [⟨((endO G : Nat) : Int), tag, hfc, fs⟩], by rw [e, if_pos rfl]; simp [modelAV, modelC, objsAV, iv], by rw [allocG, if_pos e]; exact mr_snoc hm tag hfc fs⟩, rfl⟩
            refine ⟨fun j x hj => ?_, fun _ _ h => h, List.sublist_append_right [_, _] _, fun _ h => h⟩
            have hne : j ≠ b := by rintro rfl; rw [hb.1] at hj; cases hj
            simp [Hp.setBlk, Hp.setSp, hne, hj]

/-! ### Collect -/
def RCollR (size : Int) (G : List ObjG) (roots : List WordG) (hp : Hp) (r : AV) (hp' : Hp) : Prop :=
  (∃ ho' l' h', r = .tup [modelAV size ho' l', wordsAV h' (collR G roots)] ∧ MR (collG G roots) l') ∧ hp' = hp
theorem rch_reach {G : List ObjG} {roots : List WordG} (hwf : Wf G) (hv : VW G roots) : ∃ i, RchI G roots i (reachG G roots) ∧ (reachG G roots).length ≤ i := by
  have go : ∀ (f i : Nat) (L : List Int), G.length + 1 ≤ f + i → RchI G roots i L → ∃ i L', RchI G roots i L' ∧ L'.length ≤ i := by
    intro f
    induction f with
    | zero => intro i L hf h; exact ⟨i, L, h, by have := lok_len h.ok; omega⟩
    | succ f ih =>
      intro i L hf h
      rcases Nat.lt_or_ge i L.length with hi | hi
      · obtain ⟨a, ha⟩ := some_at' L i hi
        exact ih (i + 1) _ (by omega) (rch_step hwf h ha)
      · exact ⟨i, L, h, hi⟩
  obtain ⟨i, L, h, hi⟩ := go (G.length + 1) 0 _ (by omega) (rch_start hv)
  have e := rch_end h hi
  subst e
  exact ⟨i, h, hi⟩
theorem reach_ok {G : List ObjG} {roots : List WordG} (hwf : Wf G) (hv : VW G roots) : LOk G (reachG G roots) ∧ (∀ w ∈ roots, w.ref = true → w.n ∈ reachG G roots) ∧ ∀ a ∈ reachG G roots, ∀ w ∈ (origO G a).fs, w.ref = true → w.n ∈ reachG G roots := by
  obtain ⟨i, h, hi⟩ := rch_reach hwf hv
  refine ⟨h.ok, h.rt, fun a ha => h.cl a ?_⟩
  rw [List.take_of_length_le hi]; exact ha
theorem newA_at {G : List ObjG} {L : List Int} (h : L.Nodup) {i : Nat} {a : Int} (ha : L[i]? = some a) : newA G L a = endO ((L.take i).map (origO G)) := by
  obtain ⟨j, _, h2, h3⟩ := placeL_some 0 (List.mem_of_getElem? ha)
  have hj : j = i := by
    have l1 := (List.getElem?_eq_some_iff.1 h2).1
    exact (List.getElem?_inj l1 h).1 (h2.trans ha.symm)
  rw [newA, h3, hj]
theorem toL_take {G : List ObjG} {L : List Int} {i : Nat} {a : Int} (h : L.Nodup) (ha : L[i]? = some a) : (toL G L).take (i + 1) = (toL G L).take i ++ [((endO ((L.take i).map (origO G)) : Nat) : Int)] := by
  rw [List.take_add_one, toL_at ha, newA_at h ha]; rfl
/-- The new objects with their addresses. -/
theorem pairs_coll {G : List ObjG} {L : List Int} {i : Nat} {a : Int} (ha : L[i]? = some a) : pairsF 0 ((L.take (i + 1)).map (mvO G L)) = pairsF 0 ((L.take i).map (mvO G L)) ++ [(((endO ((L.take i).map (origO G)) : Nat) : Int), mvO G L a)] := by
  have e : endO ((L.take i).map (mvO G L)) = endO ((L.take i).map (origO G)) := by
    simp only [endO, List.map_map]
    congr 1
    apply List.map_congr_left
    intro b _
    simp [mvO, osz]
  rw [List.take_add_one, ha, Option.toList_some, List.map_append, pairsF_app, e]
  simp [pairsF]

theorem mr_mv {G : List ObjG} {L : List Int} {k : Nat} {a : Int} {l' : List RObj} (hm' : MR ((L.take k).map (mvO G L)) l') (hn : L.Nodup) (ha : L[k]? = some a) {tag : Int} {fs : List WordG} (h1 : tag = (origO G a).tag) (h2 : fs = (origO G a).fs) (h : Value) :
    MR ((L.take (k + 1)).map (mvO G L)) (l' ++ [⟨(newA G L a : Nat), tag, h, fs.map (mvWord G L)⟩]) := by
  have e : endO ((L.take k).map (mvO G L)) = endO ((L.take k).map (origO G)) := by
    simp only [endO, List.map_map]
    congr 1
    apply List.map_congr_left
    intro b _
    simp [mvO, osz]
  have := mr_snoc hm' tag h (fs.map (mvWord G L))
  rw [List.take_add_one, ha, Option.toList_some, List.map_append, newA_at hn ha, ← e]
  simpa only [List.map_cons, List.map_nil, mvO, ← h1, ← h2] using this

theorem rcollect_calls (size : Int) (ho hr : Value) {G : List ObjG} {l : List RObj} (roots : List WordG) (hm : MR G l) (hwf : Wf G) (hv : VW G roots) (hN : endO G ≤ 2097152) (hrl : roots.length ≤ 8796093022000) (hp : Hp) :
    ACalls Try.prog 86 [modelAV size ho l, wordsAV hr roots] hp (RCollR size G roots hp) := by
  have hGl := len_endO G
  obtain ⟨hok, hrt, hcl⟩ := reach_ok hwf hv
  have hLG := lok_len hok
  refine acalls_addNil 3 1 (acalls_addNil 111 3 ?_)
  refine acalls_of Try.func86 rfl (by decide +kernel) (awp_sound (mu := [4, 11, 14, 74]) _ _ _ ?_)
  simp only [go_sem, Int.natCast_nonneg, Nat.reduceEqDiff, Nat.reduceAdd, Nat.reduceSub, Nat.reduceLT, Nat.reduceMul, Nat.reduceBEq, Nat.reduceLeDiff, ↓reduceIte, Int.toNat_natCast, Int.reduceToNat, Int.toNat_zero, Int.toNat_one, not_true_eq_false, false_or, or_self, Nat.reduceGT, Option.isSome_some, Bool.and_self, Nat.zero_add, Nat.mul_one, List.length_map, List.take_length, Int.cast_ofNat_Int, Int.reduceLE, Int.reduceLT, Int.reduceGE, Int.reduceGT, Int.reduceEq, Int.reduceNe, Int.le_refl, Nat.le_refl, Nat.reduceAdd, ne_eq, not_false_eq_true, reduceCtorEq, beq_true, beq_false, BEq.rfl, Bool.not_true, Bool.not_false, decide_true, decide_false, exists_prop, modelAV]
  intro p b4 hb4
  simp only [go_sem, Int.natCast_nonneg, Nat.reduceEqDiff, Nat.reduceAdd, Nat.reduceSub, Nat.reduceLT, Nat.reduceMul, Nat.reduceBEq, Nat.reduceLeDiff, ↓reduceIte, Int.toNat_natCast, Int.reduceToNat, Int.toNat_zero, Int.toNat_one, not_true_eq_false, false_or, or_self, Nat.reduceGT, Option.isSome_some, Bool.and_self, Nat.zero_add, Nat.mul_one, List.length_map, List.take_length, Int.cast_ofNat_Int, Int.reduceLE, Int.reduceLT, Int.reduceGE, Int.reduceGT, Int.reduceEq, Int.reduceNe, Int.le_refl, Nat.le_refl, Nat.reduceAdd, ne_eq, not_false_eq_true, reduceCtorEq, beq_true, beq_false, BEq.rfl, Bool.not_true, Bool.not_false, decide_true, decide_false, exists_prop, modelC, objsAV]
  refine callX_by (reach_calls size ho hr roots hm hwf hv hN hrl _) ?_
  rintro r hp1 ⟨h6, rfl, rfl⟩
  generalize hLd : reachG G roots = L at *
  have hcollG : collG G roots = L.map (mvO G L) := by rw [collG, hLd]
  have hcollR : collR G roots = roots.map (mvWord G L) := by rw [collR, hLd]
  simp only [go_sem, Int.natCast_nonneg, Nat.reduceEqDiff, Nat.reduceAdd, Nat.reduceSub, Nat.reduceLT, Nat.reduceMul, Nat.reduceBEq, Nat.reduceLeDiff, ↓reduceIte, Int.toNat_natCast, Int.reduceToNat, Int.toNat_zero, Int.toNat_one, not_true_eq_false, false_or, or_self, Nat.reduceGT, Option.isSome_some, Bool.and_self, Nat.zero_add, Nat.mul_one, List.length_map, List.take_length, Int.cast_ofNat_Int, Int.reduceLE, Int.reduceLT, Int.reduceGE, Int.reduceGT, Int.reduceEq, Int.reduceNe, Int.le_refl, Nat.le_refl, Nat.reduceAdd, ne_eq, not_false_eq_true, reduceCtorEq, beq_true, beq_false, BEq.rfl, Bool.not_true, Bool.not_false, decide_true, decide_false, exists_prop, intsAV, List.length_map]
  refine aw_loopX 81 (fun x : Nat × Value => [(1, wordsAV hr roots), (2, .ref p [.v (.int .i64 size), .lst 3 ho (l.map RObj.av)]), (4, .v (.pointer (some ⟨b4, 0, none⟩))), (6, intsAV h6 L), (7, intsAV x.2 ((toL G L).take x.1)), (8, .v (.int .i64 (endO ((L.take x.1).map (origO G)) : Nat))), (18, intsAV h6 L), (19, .v (.int .i64 L.length)), (20, .v (.int .i64 x.1))])
    (fun x => (hp.setBlk b4 31 [.v (.int .i64 0), .v (.slice none 0 0)]).setSp ((111, 3, .slice none 0 0) :: (3, 1, x.2) :: hp.sp)) (fun x => x.1 ≤ L.length) (fun x => L.length - x.1) (0, .slice none 0 0) (Nat.zero_le _)
    (le_of_cast rfl (by simp only [go_sem, Int.natCast_nonneg, Nat.reduceEqDiff, Nat.reduceAdd, Nat.reduceSub, Nat.reduceLT, Nat.reduceMul, Nat.reduceBEq, Nat.reduceLeDiff, ↓reduceIte, Int.toNat_natCast, Int.reduceToNat, Int.toNat_zero, Int.toNat_one, not_true_eq_false, false_or, or_self, Nat.reduceGT, Option.isSome_some, Bool.and_self, Nat.zero_add, Nat.mul_one, List.length_map, List.take_length, Int.cast_ofNat_Int, Int.reduceLE, Int.reduceLT, Int.reduceGE, Int.reduceGT, Int.reduceEq, Int.reduceNe, Int.le_refl, Nat.le_refl, Nat.reduceAdd, ne_eq, not_false_eq_true, reduceCtorEq, beq_true, beq_false, BEq.rfl, Bool.not_true, Bool.not_false, decide_true, decide_false, exists_prop]; exact ⟨fun _ _ h => h, fun _ _ h => h, List.Sublist.refl _, fun _ h => h⟩) (by simp [go_sem, Cast.refl, intsAV, endO]; exact Cast.nil 1)) ?_
  rintro ⟨k, h7⟩ hk
  simp only at hk
  refine awp_sound (mu := [4, 11, 14, 74]) _ _ _ ?_
  simp only [go_sem, Int.natCast_nonneg, Nat.reduceEqDiff, Nat.reduceAdd, Nat.reduceSub, Nat.reduceLT, Nat.reduceMul, Nat.reduceBEq, Nat.reduceLeDiff, ↓reduceIte, Int.toNat_natCast, Int.reduceToNat, Int.toNat_zero, Int.toNat_one, not_true_eq_false, false_or, or_self, Nat.reduceGT, Option.isSome_some, Bool.and_self, Nat.zero_add, Nat.mul_one, List.length_map, List.take_length, Int.cast_ofNat_Int, Int.reduceLE, Int.reduceLT, Int.reduceGE, Int.reduceGT, Int.reduceEq, Int.reduceNe, Int.le_refl, Nat.le_refl, Nat.reduceAdd, ne_eq, not_false_eq_true, reduceCtorEq, beq_true, beq_false, BEq.rfl, Bool.not_true, Bool.not_false, decide_true, decide_false, exists_prop, intsAV]
  refine brK_mk (fun h1 => ?_) (fun h1 => ?_) <;> simp only [go_sem, Int.natCast_nonneg, Nat.reduceEqDiff, Nat.reduceAdd, Nat.reduceSub, Nat.reduceLT, Nat.reduceMul, Nat.reduceBEq, Nat.reduceLeDiff, ↓reduceIte, Int.toNat_natCast, Int.reduceToNat, Int.toNat_zero, Int.toNat_one, not_true_eq_false, false_or, or_self, Nat.reduceGT, Option.isSome_some, Bool.and_self, Nat.zero_add, Nat.mul_one, List.length_map, List.take_length, Int.cast_ofNat_Int, Int.reduceLE, Int.reduceLT, Int.reduceGE, Int.reduceGT, Int.reduceEq, Int.reduceNe, Int.le_refl, Nat.le_refl, Nat.reduceAdd, ne_eq, not_false_eq_true, reduceCtorEq, beq_true, beq_false, BEq.rfl, Bool.not_true, Bool.not_false, decide_true, decide_false, exists_prop, h1]
  · have hk' : k < L.length := by simpa using h1
    obtain ⟨a, ha⟩ := some_at' L k hk'
    have hob := lok_obj hok (List.mem_of_getElem? ha)
    obtain ⟨j, r, hj, hjr, hra, hrt, hrf⟩ := mr_find hm hob
    have hjn : ((j : Nat) : Int).toNat = j := by omega
    have htl := toL_take (G := G) hok.nd ha
    have hle := lok_end hok
    have hes : endO ((L.take (k + 1)).map (origO G)) = endO ((L.take k).map (origO G)) + ((origO G a).fs.length + 1) := by
      rw [List.take_add_one, ha, Option.toList_some, List.map_append, endO_app]; simp [endO, osz]
    have hlk : endO ((L.take (k + 1)).map (origO G)) ≤ endO (L.map (origO G)) := by
      conv => rhs; rw [← List.take_append_drop (k + 1) L, List.map_append, endO_app]
      omega
    have hwu : IntKind.i64.wrap ((k : Int) + 1) = ((k + 1 : Nat) : Int) := IntWalk.i64_in _ (by omega)
    have hwe : IntKind.i64.wrap (((endO ((L.take k).map (origO G)) : Nat) : Int) + (1 + ((origO G a).fs.length : Int))) = ((endO ((L.take (k + 1)).map (origO G)) : Nat) : Int) := by
      rw [show ((endO ((L.take k).map (origO G)) : Nat) : Int) + (1 + ((origO G a).fs.length : Int)) = ((endO ((L.take (k + 1)).map (origO G)) : Nat) : Int) by omega]
      exact IntWalk.i64_in _ (by omega)
    have htll : ((toL G L).take k).length ≤ k := by simp; omega
    simp only [go_sem, Int.natCast_nonneg, Nat.reduceEqDiff, Nat.reduceAdd, Nat.reduceSub, Nat.reduceLT, Nat.reduceMul, Nat.reduceBEq, Nat.reduceLeDiff, ↓reduceIte, Int.toNat_natCast, Int.reduceToNat, Int.toNat_zero, Int.toNat_one, not_true_eq_false, false_or, or_self, Nat.reduceGT, Option.isSome_some, Bool.and_self, Nat.zero_add, Nat.mul_one, List.length_map, List.take_length, Int.cast_ofNat_Int, Int.reduceLE, Int.reduceLT, Int.reduceGE, Int.reduceGT, Int.reduceEq, Int.reduceNe, Int.le_refl, Nat.le_refl, Nat.reduceAdd, ne_eq, not_false_eq_true, reduceCtorEq, beq_true, beq_false, BEq.rfl, Bool.not_true, Bool.not_false, decide_true, decide_false, exists_prop, h1, map_at' iv _ _ _ ha, iv]
    refine ⟨rfl, by simp, fun hd => ?_⟩
    refine append_by (a := intsAV h7 ((toL G L).take k)) (b := .lst 1 hd [iv ((endO ((L.take k).map (origO G)) : Nat) : Int)]) (l1 := [(3, 1, hd), (111, 3, .slice none 0 0)]) (l2 := hp.sp) (h := h7) (h2 := hd) Try.k41 Try.s3 Try.y3 Try.z3 rfl (by decide)
      (by simp [go_sem, intsAV]) (Cast.refl _) (by simp [go_sem, iv]) (Cast.refl _) (by simp [go_sem]) (by simp [go_sem, iv]) (by simp [maxLen]; omega) (by simp; omega) (by simp [go_sem]) (fun h' => ?_)
    simp only [go_sem, Int.natCast_nonneg, Nat.reduceEqDiff, Nat.reduceAdd, Nat.reduceSub, Nat.reduceLT, Nat.reduceMul, Nat.reduceBEq, Nat.reduceLeDiff, ↓reduceIte, Int.toNat_natCast, Int.reduceToNat, Int.toNat_zero, Int.toNat_one, not_true_eq_false, false_or, or_self, Nat.reduceGT, Option.isSome_some, Bool.and_self, Nat.zero_add, Nat.mul_one, List.length_map, List.take_length, Int.cast_ofNat_Int, Int.reduceLE, Int.reduceLT, Int.reduceGE, Int.reduceGT, Int.reduceEq, Int.reduceNe, Int.le_refl, Nat.le_refl, Nat.reduceAdd, ne_eq, not_false_eq_true, reduceCtorEq, beq_true, beq_false, BEq.rfl, Bool.not_true, Bool.not_false, decide_true, decide_false, exists_prop]
    refine draw_by (mu := [4, 11, 14, 74]) (fun _ => True) (.take 0 (.take 1 (.take 2 (.take 3 (.take 4 (.br 5 (.take 6 (.take 7 (.take 8 (.take 9 (.br 10 (.take 11 (.take 12 (.done))) (.stop)))))) (.stop))))))) (by decide +kernel) trivial (by decide +kernel) (by decide +kernel) ?_
    simp only [go_sem, Int.natCast_nonneg, Nat.reduceEqDiff, Nat.reduceAdd, Nat.reduceSub, Nat.reduceLT, Nat.reduceMul, Nat.reduceBEq, Nat.reduceLeDiff, ↓reduceIte, Int.toNat_natCast, Int.reduceToNat, Int.toNat_zero, Int.toNat_one, not_true_eq_false, false_or, or_self, Nat.reduceGT, Option.isSome_some, Bool.and_self, Nat.zero_add, Nat.mul_one, List.length_map, List.take_length, Int.cast_ofNat_Int, Int.reduceLE, Int.reduceLT, Int.reduceGE, Int.reduceGT, Int.reduceEq, Int.reduceNe, Int.le_refl, Nat.le_refl, Nat.reduceAdd, ne_eq, not_false_eq_true, reduceCtorEq, beq_true, beq_false, BEq.rfl, Bool.not_true, Bool.not_false, decide_true, decide_false, exists_prop]
    refine callX_by (find_calls size ho l a _) ?_
    rintro r' hp2 ⟨rfl, rfl⟩
    simp only [go_sem, Int.natCast_nonneg, Nat.reduceEqDiff, Nat.reduceAdd, Nat.reduceSub, Nat.reduceLT, Nat.reduceMul, Nat.reduceBEq, Nat.reduceLeDiff, ↓reduceIte, Int.toNat_natCast, Int.reduceToNat, Int.toNat_zero, Int.toNat_one, not_true_eq_false, false_or, or_self, Nat.reduceGT, Option.isSome_some, Bool.and_self, Nat.zero_add, Nat.mul_one, List.length_map, List.take_length, Int.cast_ofNat_Int, Int.reduceLE, Int.reduceLT, Int.reduceGE, Int.reduceGT, Int.reduceEq, Int.reduceNe, Int.le_refl, Nat.le_refl, Nat.reduceAdd, ne_eq, not_false_eq_true, reduceCtorEq, beq_true, beq_false, BEq.rfl, Bool.not_true, Bool.not_false, decide_true, decide_false, exists_prop, hj, hjn, map_at' RObj.av _ _ _ hjr, RObj.av, RObj.cs, hrf]
    refine callX_by (cells_calls (origO G a).fs.length (by omega) (by omega) _) ?_
    rintro r' hp3 ⟨rfl, rfl⟩
    simp only [go_sem, Int.natCast_nonneg, Nat.reduceEqDiff, Nat.reduceAdd, Nat.reduceSub, Nat.reduceLT, Nat.reduceMul, Nat.reduceBEq, Nat.reduceLeDiff, ↓reduceIte, Int.toNat_natCast, Int.reduceToNat, Int.toNat_zero, Int.toNat_one, not_true_eq_false, false_or, or_self, Nat.reduceGT, Option.isSome_some, Bool.and_self, Nat.zero_add, Nat.mul_one, List.length_map, List.take_length, Int.cast_ofNat_Int, Int.reduceLE, Int.reduceLT, Int.reduceGE, Int.reduceGT, Int.reduceEq, Int.reduceNe, Int.le_refl, Nat.le_refl, Nat.reduceAdd, ne_eq, not_false_eq_true, reduceCtorEq, beq_true, beq_false, BEq.rfl, Bool.not_true, Bool.not_false, decide_true, decide_false, exists_prop, hwe]
    refine ⟨(k + 1, h'), by simp only; omega, by simp only; omega, le_mkSl rfl ?_ ?_⟩
    · simp only [go_sem, Int.natCast_nonneg, Nat.reduceEqDiff, Nat.reduceAdd, Nat.reduceSub, Nat.reduceLT, Nat.reduceMul, Nat.reduceBEq, Nat.reduceLeDiff, ↓reduceIte, Int.toNat_natCast, Int.reduceToNat, Int.toNat_zero, Int.toNat_one, not_true_eq_false, false_or, or_self, Nat.reduceGT, Option.isSome_some, Bool.and_self, Nat.zero_add, Nat.mul_one, List.length_map, List.take_length, Int.cast_ofNat_Int, Int.reduceLE, Int.reduceLT, Int.reduceGE, Int.reduceGT, Int.reduceEq, Int.reduceNe, Int.le_refl, Nat.le_refl, Nat.reduceAdd, ne_eq, not_false_eq_true, reduceCtorEq, beq_true, beq_false, BEq.rfl, Bool.not_true, Bool.not_false, decide_true, decide_false, exists_prop]
      exact ⟨fun _ _ h => h, fun _ _ h => h, List.sublist_cons_self _ _, fun _ h => h⟩
    · simp [go_sem, intsAV, hwu, htl, iv]
  · have e : k = L.length := by simp at h1; omega
    subst e
    have htf : (toL G L).take L.length = toL G L := List.take_of_length_le (by simp [toL])
    simp only [htf]
    intro b11 hb11
    have n411 : b4 ≠ b11 := by rintro rfl; have := hb11.1; simp [Hp.setBlk, Hp.setSp] at this
    have hpb11 : hp.blk b11 = none := by have := hb11.1; simpa [Hp.setBlk, Hp.setSp, Ne.symm n411] using this
    refine castBlk_by b11 31 [.v (.int .i64 size), .v (.slice none 0 0)] [.v (.int .i64 size), .lst 3 (.slice none 0 0) []] (by simp [go_sem]) rfl (fun m _ => ⟨trivial, (Cast.nil 3).2 m trivial, trivial⟩) ?_
    simp only [go_sem, Int.natCast_nonneg, Nat.reduceEqDiff, Nat.reduceAdd, Nat.reduceSub, Nat.reduceLT, Nat.reduceMul, Nat.reduceBEq, Nat.reduceLeDiff, ↓reduceIte, Int.toNat_natCast, Int.reduceToNat, Int.toNat_zero, Int.toNat_one, not_true_eq_false, false_or, or_self, Nat.reduceGT, Option.isSome_some, Bool.and_self, Nat.zero_add, Nat.mul_one, List.length_map, List.take_length, Int.cast_ofNat_Int, Int.reduceLE, Int.reduceLT, Int.reduceGE, Int.reduceGT, Int.reduceEq, Int.reduceNe, Int.le_refl, Nat.le_refl, Nat.reduceAdd, ne_eq, not_false_eq_true, reduceCtorEq, beq_true, beq_false, BEq.rfl, Bool.not_true, Bool.not_false, decide_true, decide_false, exists_prop, Hp.set_set]
    refine aw_loopX 81 (fun x : Nat × Value × List RObj => [(1, wordsAV hr roots), (2, .ref p [.v (.int .i64 size), .lst 3 ho (l.map RObj.av)]), (4, .v (.pointer (some ⟨b4, 0, none⟩))), (6, intsAV h6 L), (7, intsAV h7 (toL G L)), (11, .v (.pointer (some ⟨b11, 0, none⟩))), (44, intsAV h6 L), (45, .v (.int .i64 L.length)), (46, .v (.int .i64 x.1))])
      (fun x => ((hp.setBlk b4 31 [.v (.int .i64 0), .v (.slice none 0 0)]).setBlk b11 31 [.v (.int .i64 size), objsAV x.2.1 x.2.2]).setSp ((111, 3, x.2.1) :: (3, 1, h7) :: hp.sp)) (fun x => x.1 ≤ L.length ∧ MR ((L.take x.1).map (mvO G L)) x.2.2) (fun x => L.length - x.1) (0, .slice none 0 0, []) ⟨Nat.zero_le _, rfl⟩
      (le_mkSl rfl (by simp only [go_sem, Int.natCast_nonneg, Nat.reduceEqDiff, Nat.reduceAdd, Nat.reduceSub, Nat.reduceLT, Nat.reduceMul, Nat.reduceBEq, Nat.reduceLeDiff, ↓reduceIte, Int.toNat_natCast, Int.reduceToNat, Int.toNat_zero, Int.toNat_one, not_true_eq_false, false_or, or_self, Nat.reduceGT, Option.isSome_some, Bool.and_self, Nat.zero_add, Nat.mul_one, List.length_map, List.take_length, Int.cast_ofNat_Int, Int.reduceLE, Int.reduceLT, Int.reduceGE, Int.reduceGT, Int.reduceEq, Int.reduceNe, Int.le_refl, Nat.le_refl, Nat.reduceAdd, ne_eq, not_false_eq_true, reduceCtorEq, beq_true, beq_false, BEq.rfl, Bool.not_true, Bool.not_false, decide_true, decide_false, exists_prop]; exact ⟨fun _ _ h => h, fun _ _ h => h, List.Sublist.refl _, fun _ h => h⟩) (by simp [go_sem, intsAV, objsAV])) ?_
    rintro ⟨k, ho', l'⟩ ⟨hk, hm'⟩
    simp only at hk hm'
    have hl'len := mr_len hm'
    have hl'k : l'.length ≤ k := by rw [hl'len]; simp; omega
    refine awp_sound (mu := [4, 11, 14, 74]) _ _ _ ?_
    simp only [go_sem, Int.natCast_nonneg, Nat.reduceEqDiff, Nat.reduceAdd, Nat.reduceSub, Nat.reduceLT, Nat.reduceMul, Nat.reduceBEq, Nat.reduceLeDiff, ↓reduceIte, Int.toNat_natCast, Int.reduceToNat, Int.toNat_zero, Int.toNat_one, not_true_eq_false, false_or, or_self, Nat.reduceGT, Option.isSome_some, Bool.and_self, Nat.zero_add, Nat.mul_one, List.length_map, List.take_length, Int.cast_ofNat_Int, Int.reduceLE, Int.reduceLT, Int.reduceGE, Int.reduceGT, Int.reduceEq, Int.reduceNe, Int.le_refl, Nat.le_refl, Nat.reduceAdd, ne_eq, not_false_eq_true, reduceCtorEq, beq_true, beq_false, BEq.rfl, Bool.not_true, Bool.not_false, decide_true, decide_false, exists_prop, intsAV, objsAV]
    refine brK_mk (fun h1 => ?_) (fun h1 => ?_) <;> simp only [go_sem, Int.natCast_nonneg, Nat.reduceEqDiff, Nat.reduceAdd, Nat.reduceSub, Nat.reduceLT, Nat.reduceMul, Nat.reduceBEq, Nat.reduceLeDiff, ↓reduceIte, Int.toNat_natCast, Int.reduceToNat, Int.toNat_zero, Int.toNat_one, not_true_eq_false, false_or, or_self, Nat.reduceGT, Option.isSome_some, Bool.and_self, Nat.zero_add, Nat.mul_one, List.length_map, List.take_length, Int.cast_ofNat_Int, Int.reduceLE, Int.reduceLT, Int.reduceGE, Int.reduceGT, Int.reduceEq, Int.reduceNe, Int.le_refl, Nat.le_refl, Nat.reduceAdd, ne_eq, not_false_eq_true, reduceCtorEq, beq_true, beq_false, BEq.rfl, Bool.not_true, Bool.not_false, decide_true, decide_false, exists_prop, h1]
    · have hk' : k < L.length := by simpa using h1
      obtain ⟨a, ha⟩ := some_at' L k hk'
      have haL := List.mem_of_getElem? ha
      have hob := lok_obj hok haL
      obtain ⟨j, r, hj, hjr, hra, hrtg, hrf⟩ := mr_find hm hob
      have hjn : ((j : Nat) : Int).toNat = j := by omega
      have hwu : IntKind.i64.wrap ((k : Int) + 1) = ((k + 1 : Nat) : Int) := IntWalk.i64_in _ (by omega)
      simp only [go_sem, Int.natCast_nonneg, Nat.reduceEqDiff, Nat.reduceAdd, Nat.reduceSub, Nat.reduceLT, Nat.reduceMul, Nat.reduceBEq, Nat.reduceLeDiff, ↓reduceIte, Int.toNat_natCast, Int.reduceToNat, Int.toNat_zero, Int.toNat_one, not_true_eq_false, false_or, or_self, Nat.reduceGT, Option.isSome_some, Bool.and_self, Nat.zero_add, Nat.mul_one, List.length_map, List.take_length, Int.cast_ofNat_Int, Int.reduceLE, Int.reduceLT, Int.reduceGE, Int.reduceGT, Int.reduceEq, Int.reduceNe, Int.le_refl, Nat.le_refl, Nat.reduceAdd, ne_eq, not_false_eq_true, reduceCtorEq, beq_true, beq_false, BEq.rfl, Bool.not_true, Bool.not_false, decide_true, decide_false, exists_prop, h1, map_at' iv _ _ _ ha, iv]
      refine draw_by (mu := [4, 11, 14, 74]) (fun _ => True) (.take 0 (.take 1 (.take 2 (.take 3 (.br 4 (.take 5 (.take 6 (.br 7 (.br 8 (.done) (.stop)) (.stop)))) (.br 7 (.br 4 (.take 5 (.take 6 (.br 8 (.done) (.stop)))) (.stop)) (.stop))))))) (by decide +kernel) trivial (by decide +kernel) (by decide +kernel) ?_
      simp only [go_sem, Int.natCast_nonneg, Nat.reduceEqDiff, Nat.reduceAdd, Nat.reduceSub, Nat.reduceLT, Nat.reduceMul, Nat.reduceBEq, Nat.reduceLeDiff, ↓reduceIte, Int.toNat_natCast, Int.reduceToNat, Int.toNat_zero, Int.toNat_one, not_true_eq_false, false_or, or_self, Nat.reduceGT, Option.isSome_some, Bool.and_self, Nat.zero_add, Nat.mul_one, List.length_map, List.take_length, Int.cast_ofNat_Int, Int.reduceLE, Int.reduceLT, Int.reduceGE, Int.reduceGT, Int.reduceEq, Int.reduceNe, Int.le_refl, Nat.le_refl, Nat.reduceAdd, ne_eq, not_false_eq_true, reduceCtorEq, beq_true, beq_false, BEq.rfl, Bool.not_true, Bool.not_false, decide_true, decide_false, exists_prop]
      refine ⟨?_, ?_⟩
      all_goals
        first
        | (refine callX_by (find_calls size ho l a _) ?_
           rintro r' hp2 ⟨rfl, rfl⟩
           simp only [go_sem, Int.natCast_nonneg, Nat.reduceEqDiff, Nat.reduceAdd, Nat.reduceSub, Nat.reduceLT, Nat.reduceMul, Nat.reduceBEq, Nat.reduceLeDiff, ↓reduceIte, Int.toNat_natCast, Int.reduceToNat, Int.toNat_zero, Int.toNat_one, not_true_eq_false, false_or, or_self, Nat.reduceGT, Option.isSome_some, Bool.and_self, Nat.zero_add, Nat.mul_one, List.length_map, List.take_length, Int.cast_ofNat_Int, Int.reduceLE, Int.reduceLT, Int.reduceGE, Int.reduceGT, Int.reduceEq, Int.reduceNe, Int.le_refl, Nat.le_refl, Nat.reduceAdd, ne_eq, not_false_eq_true, reduceCtorEq, beq_true, beq_false, BEq.rfl, Bool.not_true, Bool.not_false, decide_true, decide_false, exists_prop, hj, hjn, map_at' RObj.av _ _ _ hjr, RObj.av, RObj.cs]
           intro b14 hb14)
        | (intro b14 hb14
           refine callX_by (find_calls size ho l a _) ?_
           rintro r' hp2 ⟨rfl, rfl⟩
           simp only [go_sem, Int.natCast_nonneg, Nat.reduceEqDiff, Nat.reduceAdd, Nat.reduceSub, Nat.reduceLT, Nat.reduceMul, Nat.reduceBEq, Nat.reduceLeDiff, ↓reduceIte, Int.toNat_natCast, Int.reduceToNat, Int.toNat_zero, Int.toNat_one, not_true_eq_false, false_or, or_self, Nat.reduceGT, Option.isSome_some, Bool.and_self, Nat.zero_add, Nat.mul_one, List.length_map, List.take_length, Int.cast_ofNat_Int, Int.reduceLE, Int.reduceLT, Int.reduceGE, Int.reduceGT, Int.reduceEq, Int.reduceNe, Int.le_refl, Nat.le_refl, Nat.reduceAdd, ne_eq, not_false_eq_true, reduceCtorEq, beq_true, beq_false, BEq.rfl, Bool.not_true, Bool.not_false, decide_true, decide_false, exists_prop, hj, hjn, map_at' RObj.av _ _ _ hjr, RObj.av, RObj.cs, Hp.set_set])
      all_goals
        have hb14b := hb14.1
        have n4 : b4 ≠ b14 := by rintro rfl; simp [Hp.setBlk, Hp.setSp, n411] at hb14b
        have n11 : b11 ≠ b14 := by rintro rfl; simp [Hp.setBlk, Hp.setSp] at hb14b
        have hpb14 : hp.blk b14 = none := by simpa [Hp.setBlk, Hp.setSp, Ne.symm n4, Ne.symm n11] using hb14b
        refine draw_by (mu := [4, 11, 14, 74]) (fun h => h.blk b14 = some (111, [.v (.int .i64 r.adr), .v (.int .i64 r.tag), .lst 2 r.h (r.fs.map WordG.av)])) (.take 0 (.take 2 (.take 3 (.take 4 (.take 5 (.take 6 (.take 7 (.take 8 (.take 9 (.take 10 (.take 11 (.br 1 (.br 12 (.br 13 (.br 14 (.br 15 (.take 16 (.br 17 (.done) (.stop))) (.stop)) (.stop)) (.stop)) (.stop)) (.br 12 (.br 1 (.br 13 (.br 14 (.br 15 (.take 16 (.br 17 (.done) (.stop))) (.stop)) (.stop)) (.stop)) (.br 13 (.br 1 (.br 14 (.br 15 (.take 16 (.br 17 (.done) (.stop))) (.stop)) (.stop)) (.br 14 (.br 1 (.br 15 (.take 16 (.br 17 (.done) (.stop))) (.stop)) (.stop)) (.stop))) (.stop))) (.stop)))))))))))))) (by decide +kernel) (by simp only [go_sem, Int.natCast_nonneg, Nat.reduceEqDiff, Nat.reduceAdd, Nat.reduceSub, Nat.reduceLT, Nat.reduceMul, Nat.reduceBEq, Nat.reduceLeDiff, ↓reduceIte, Int.toNat_natCast, Int.reduceToNat, Int.toNat_zero, Int.toNat_one, not_true_eq_false, false_or, or_self, Nat.reduceGT, Option.isSome_some, Bool.and_self, Nat.zero_add, Nat.mul_one, List.length_map, List.take_length, Int.cast_ofNat_Int, Int.reduceLE, Int.reduceLT, Int.reduceGE, Int.reduceGT, Int.reduceEq, Int.reduceNe, Int.le_refl, Nat.le_refl, Nat.reduceAdd, ne_eq, not_false_eq_true, reduceCtorEq, beq_true, beq_false, BEq.rfl, Bool.not_true, Bool.not_false, decide_true, decide_false, exists_prop]) (by decide +kernel) (by decide +kernel) ?_
        simp only [go_sem, Int.natCast_nonneg, Nat.reduceEqDiff, Nat.reduceAdd, Nat.reduceSub, Nat.reduceLT, Nat.reduceMul, Nat.reduceBEq, Nat.reduceLeDiff, ↓reduceIte, Int.toNat_natCast, Int.reduceToNat, Int.toNat_zero, Int.toNat_one, not_true_eq_false, false_or, or_self, Nat.reduceGT, Option.isSome_some, Bool.and_self, Nat.zero_add, Nat.mul_one, List.length_map, List.take_length, Int.cast_ofNat_Int, Int.reduceLE, Int.reduceLT, Int.reduceGE, Int.reduceGT, Int.reduceEq, Int.reduceNe, Int.le_refl, Nat.le_refl, Nat.reduceAdd, ne_eq, not_false_eq_true, reduceCtorEq, beq_true, beq_false, BEq.rfl, Bool.not_true, Bool.not_false, decide_true, decide_false, exists_prop, map_at' iv _ _ _ (toL_at (G := G) ha), iv, n11]
        refine ⟨fun h e => by rw [e]; simp only [go_sem, Int.natCast_nonneg, Nat.reduceEqDiff, Nat.reduceAdd, Nat.reduceSub, Nat.reduceLT, Nat.reduceMul, Nat.reduceBEq, Nat.reduceLeDiff, ↓reduceIte, Int.toNat_natCast, Int.reduceToNat, Int.toNat_zero, Int.toNat_one, not_true_eq_false, false_or, or_self, Nat.reduceGT, Option.isSome_some, Bool.and_self, Nat.zero_add, Nat.mul_one, List.length_map, List.take_length, Int.cast_ofNat_Int, Int.reduceLE, Int.reduceLT, Int.reduceGE, Int.reduceGT, Int.reduceEq, Int.reduceNe, Int.le_refl, Nat.le_refl, Nat.reduceAdd, ne_eq, not_false_eq_true, reduceCtorEq, beq_true, beq_false, BEq.rfl, Bool.not_true, Bool.not_false, decide_true, decide_false, exists_prop], fun h e => by rw [e]; simp only [go_sem, Int.natCast_nonneg, Nat.reduceEqDiff, Nat.reduceAdd, Nat.reduceSub, Nat.reduceLT, Nat.reduceMul, Nat.reduceBEq, Nat.reduceLeDiff, ↓reduceIte, Int.toNat_natCast, Int.reduceToNat, Int.toNat_zero, Int.toNat_one, not_true_eq_false, false_or, or_self, Nat.reduceGT, Option.isSome_some, Bool.and_self, Nat.zero_add, Nat.mul_one, List.length_map, List.take_length, Int.cast_ofNat_Int, Int.reduceLE, Int.reduceLT, Int.reduceGE, Int.reduceGT, Int.reduceEq, Int.reduceNe, Int.le_refl, Nat.le_refl, Nat.reduceAdd, ne_eq, not_false_eq_true, reduceCtorEq, beq_true, beq_false, BEq.rfl, Bool.not_true, Bool.not_false, decide_true, decide_false, exists_prop], ?_⟩
        refine ⟨?_, ?_⟩
        · skip
          refine callX_by (moved_calls (G := G) r.h h6 h7 r.fs (by rw [hrf]; exact hcl a haL) (by rw [hrf]; have := origO_len (G := G) a; omega) (by omega) _) ?_
          rintro r' hp3 ⟨⟨h70, rfl⟩, rfl⟩
          simp only [go_sem, Int.natCast_nonneg, Nat.reduceEqDiff, Nat.reduceAdd, Nat.reduceSub, Nat.reduceLT, Nat.reduceMul, Nat.reduceBEq, Nat.reduceLeDiff, ↓reduceIte, Int.toNat_natCast, Int.reduceToNat, Int.toNat_zero, Int.toNat_one, not_true_eq_false, false_or, or_self, Nat.reduceGT, Option.isSome_some, Bool.and_self, Nat.zero_add, Nat.mul_one, List.length_map, List.take_length, Int.cast_ofNat_Int, Int.reduceLE, Int.reduceLT, Int.reduceGE, Int.reduceGT, Int.reduceEq, Int.reduceNe, Int.le_refl, Nat.le_refl, Nat.reduceAdd, ne_eq, not_false_eq_true, reduceCtorEq, beq_true, beq_false, BEq.rfl, Bool.not_true, Bool.not_false, decide_true, decide_false, exists_prop, wordsAV, n11]
          refine ⟨rfl, by simp, fun hd => ?_⟩
          refine append_by (a := objsAV ho' l') (b := .lst 3 hd [RObj.av ⟨(newA G L a : Nat), r.tag, h70, r.fs.map (mvWord G L)⟩]) (l1 := [(111, 3, hd)]) (l2 := (3, 1, h7) :: hp.sp) (h := ho') (h2 := hd) Try.k29 Try.s111 Try.y111 Try.z111 rfl (by decide)
            (by simp [go_sem, objsAV]) (Cast.refl _) (by simp [go_sem, RObj.av, RObj.cs]) (Cast.refl _) (by simp [go_sem]) (by simp [go_sem, RObj.av, RObj.cs]) (by simp [maxLen]; omega) (by simp; omega) (by simp [go_sem]) (fun h' => ?_)
          simp only [go_sem, Int.natCast_nonneg, Nat.reduceEqDiff, Nat.reduceAdd, Nat.reduceSub, Nat.reduceLT, Nat.reduceMul, Nat.reduceBEq, Nat.reduceLeDiff, ↓reduceIte, Int.toNat_natCast, Int.reduceToNat, Int.toNat_zero, Int.toNat_one, not_true_eq_false, false_or, or_self, Nat.reduceGT, Option.isSome_some, Bool.and_self, Nat.zero_add, Nat.mul_one, List.length_map, List.take_length, Int.cast_ofNat_Int, Int.reduceLE, Int.reduceLT, Int.reduceGE, Int.reduceGT, Int.reduceEq, Int.reduceNe, Int.le_refl, Nat.le_refl, Nat.reduceAdd, ne_eq, not_false_eq_true, reduceCtorEq, beq_true, beq_false, BEq.rfl, Bool.not_true, Bool.not_false, decide_true, decide_false, exists_prop, hwu, n11, Ne.symm n11]
          refine ⟨(k + 1, h', l' ++ [⟨(newA G L a : Nat), r.tag, h70, r.fs.map (mvWord G L)⟩]), by simp only; omega, ⟨by simp only; omega, mr_mv hm' hok.nd ha hrtg hrf h70⟩, le_mkSl rfl ?_ ?_⟩
          · refine ⟨fun i x hi => ?_, fun _ _ h => h, List.sublist_cons_self _ _, fun _ h => h⟩
            simp only [go_sem, Int.natCast_nonneg, Nat.reduceEqDiff, Nat.reduceAdd, Nat.reduceSub, Nat.reduceLT, Nat.reduceMul, Nat.reduceBEq, Nat.reduceLeDiff, ↓reduceIte, Int.toNat_natCast, Int.reduceToNat, Int.toNat_zero, Int.toNat_one, not_true_eq_false, false_or, or_self, Nat.reduceGT, Option.isSome_some, Bool.and_self, Nat.zero_add, Nat.mul_one, List.length_map, List.take_length, Int.cast_ofNat_Int, Int.reduceLE, Int.reduceLT, Int.reduceGE, Int.reduceGT, Int.reduceEq, Int.reduceNe, Int.le_refl, Nat.le_refl, Nat.reduceAdd, ne_eq, not_false_eq_true, reduceCtorEq, beq_true, beq_false, BEq.rfl, Bool.not_true, Bool.not_false, decide_true, decide_false, exists_prop, Hp.setBlk_blk, Hp.setSp, Hp.setBlk] at hi ⊢
            by_cases e1 : i = b11
            · subst e1; simpa [objsAV, iv] using hi
            · by_cases e2 : i = b14
              · subst e2; simp [Ne.symm n4, Ne.symm n11, hpb14] at hi
              · simpa [e1, e2] using hi
          · simp [go_sem, intsAV, objsAV, iv, n11]
        · skip
          refine callX_by (moved_calls (G := G) r.h h6 h7 r.fs (by rw [hrf]; exact hcl a haL) (by rw [hrf]; have := origO_len (G := G) a; omega) (by omega) _) ?_
          rintro r' hp3 ⟨⟨h70, rfl⟩, rfl⟩
          simp only [go_sem, Int.natCast_nonneg, Nat.reduceEqDiff, Nat.reduceAdd, Nat.reduceSub, Nat.reduceLT, Nat.reduceMul, Nat.reduceBEq, Nat.reduceLeDiff, ↓reduceIte, Int.toNat_natCast, Int.reduceToNat, Int.toNat_zero, Int.toNat_one, not_true_eq_false, false_or, or_self, Nat.reduceGT, Option.isSome_some, Bool.and_self, Nat.zero_add, Nat.mul_one, List.length_map, List.take_length, Int.cast_ofNat_Int, Int.reduceLE, Int.reduceLT, Int.reduceGE, Int.reduceGT, Int.reduceEq, Int.reduceNe, Int.le_refl, Nat.le_refl, Nat.reduceAdd, ne_eq, not_false_eq_true, reduceCtorEq, beq_true, beq_false, BEq.rfl, Bool.not_true, Bool.not_false, decide_true, decide_false, exists_prop, wordsAV, n11]
          refine ⟨?_, ?_⟩
          · skip
            refine ⟨rfl, by simp, fun hd => ?_⟩
            refine append_by (a := objsAV ho' l') (b := .lst 3 hd [RObj.av ⟨(newA G L a : Nat), r.tag, h70, r.fs.map (mvWord G L)⟩]) (l1 := [(111, 3, hd)]) (l2 := (3, 1, h7) :: hp.sp) (h := ho') (h2 := hd) Try.k29 Try.s111 Try.y111 Try.z111 rfl (by decide)
              (by simp [go_sem, objsAV]) (Cast.refl _) (by simp [go_sem, RObj.av, RObj.cs]) (Cast.refl _) (by simp [go_sem]) (by simp [go_sem, RObj.av, RObj.cs]) (by simp [maxLen]; omega) (by simp; omega) (by simp [go_sem]) (fun h' => ?_)
            simp only [go_sem, Int.natCast_nonneg, Nat.reduceEqDiff, Nat.reduceAdd, Nat.reduceSub, Nat.reduceLT, Nat.reduceMul, Nat.reduceBEq, Nat.reduceLeDiff, ↓reduceIte, Int.toNat_natCast, Int.reduceToNat, Int.toNat_zero, Int.toNat_one, not_true_eq_false, false_or, or_self, Nat.reduceGT, Option.isSome_some, Bool.and_self, Nat.zero_add, Nat.mul_one, List.length_map, List.take_length, Int.cast_ofNat_Int, Int.reduceLE, Int.reduceLT, Int.reduceGE, Int.reduceGT, Int.reduceEq, Int.reduceNe, Int.le_refl, Nat.le_refl, Nat.reduceAdd, ne_eq, not_false_eq_true, reduceCtorEq, beq_true, beq_false, BEq.rfl, Bool.not_true, Bool.not_false, decide_true, decide_false, exists_prop, hwu, n11, Ne.symm n11]
            refine ⟨(k + 1, h', l' ++ [⟨(newA G L a : Nat), r.tag, h70, r.fs.map (mvWord G L)⟩]), by simp only; omega, ⟨by simp only; omega, mr_mv hm' hok.nd ha hrtg hrf h70⟩, le_mkSl rfl ?_ ?_⟩
            · refine ⟨fun i x hi => ?_, fun _ _ h => h, List.sublist_cons_self _ _, fun _ h => h⟩
              simp only [go_sem, Int.natCast_nonneg, Nat.reduceEqDiff, Nat.reduceAdd, Nat.reduceSub, Nat.reduceLT, Nat.reduceMul, Nat.reduceBEq, Nat.reduceLeDiff, ↓reduceIte, Int.toNat_natCast, Int.reduceToNat, Int.toNat_zero, Int.toNat_one, not_true_eq_false, false_or, or_self, Nat.reduceGT, Option.isSome_some, Bool.and_self, Nat.zero_add, Nat.mul_one, List.length_map, List.take_length, Int.cast_ofNat_Int, Int.reduceLE, Int.reduceLT, Int.reduceGE, Int.reduceGT, Int.reduceEq, Int.reduceNe, Int.le_refl, Nat.le_refl, Nat.reduceAdd, ne_eq, not_false_eq_true, reduceCtorEq, beq_true, beq_false, BEq.rfl, Bool.not_true, Bool.not_false, decide_true, decide_false, exists_prop, Hp.setBlk_blk, Hp.setSp, Hp.setBlk] at hi ⊢
              by_cases e1 : i = b11
              · subst e1; simpa [objsAV, iv] using hi
              · by_cases e2 : i = b14
                · subst e2; simp [Ne.symm n4, Ne.symm n11, hpb14] at hi
                · simpa [e1, e2] using hi
            · simp [go_sem, intsAV, objsAV, iv, n11]
          · refine ⟨?_, ?_⟩
            · skip
              refine ⟨rfl, by simp, fun hd => ?_⟩
              refine append_by (a := objsAV ho' l') (b := .lst 3 hd [RObj.av ⟨(newA G L a : Nat), r.tag, h70, r.fs.map (mvWord G L)⟩]) (l1 := [(111, 3, hd)]) (l2 := (3, 1, h7) :: hp.sp) (h := ho') (h2 := hd) Try.k29 Try.s111 Try.y111 Try.z111 rfl (by decide)
                (by simp [go_sem, objsAV]) (Cast.refl _) (by simp [go_sem, RObj.av, RObj.cs]) (Cast.refl _) (by simp [go_sem]) (by simp [go_sem, RObj.av, RObj.cs]) (by simp [maxLen]; omega) (by simp; omega) (by simp [go_sem]) (fun h' => ?_)
              simp only [go_sem, Int.natCast_nonneg, Nat.reduceEqDiff, Nat.reduceAdd, Nat.reduceSub, Nat.reduceLT, Nat.reduceMul, Nat.reduceBEq, Nat.reduceLeDiff, ↓reduceIte, Int.toNat_natCast, Int.reduceToNat, Int.toNat_zero, Int.toNat_one, not_true_eq_false, false_or, or_self, Nat.reduceGT, Option.isSome_some, Bool.and_self, Nat.zero_add, Nat.mul_one, List.length_map, List.take_length, Int.cast_ofNat_Int, Int.reduceLE, Int.reduceLT, Int.reduceGE, Int.reduceGT, Int.reduceEq, Int.reduceNe, Int.le_refl, Nat.le_refl, Nat.reduceAdd, ne_eq, not_false_eq_true, reduceCtorEq, beq_true, beq_false, BEq.rfl, Bool.not_true, Bool.not_false, decide_true, decide_false, exists_prop, hwu, n11, Ne.symm n11]
              refine ⟨(k + 1, h', l' ++ [⟨(newA G L a : Nat), r.tag, h70, r.fs.map (mvWord G L)⟩]), by simp only; omega, ⟨by simp only; omega, mr_mv hm' hok.nd ha hrtg hrf h70⟩, le_mkSl rfl ?_ ?_⟩
              · refine ⟨fun i x hi => ?_, fun _ _ h => h, List.sublist_cons_self _ _, fun _ h => h⟩
                simp only [go_sem, Int.natCast_nonneg, Nat.reduceEqDiff, Nat.reduceAdd, Nat.reduceSub, Nat.reduceLT, Nat.reduceMul, Nat.reduceBEq, Nat.reduceLeDiff, ↓reduceIte, Int.toNat_natCast, Int.reduceToNat, Int.toNat_zero, Int.toNat_one, not_true_eq_false, false_or, or_self, Nat.reduceGT, Option.isSome_some, Bool.and_self, Nat.zero_add, Nat.mul_one, List.length_map, List.take_length, Int.cast_ofNat_Int, Int.reduceLE, Int.reduceLT, Int.reduceGE, Int.reduceGT, Int.reduceEq, Int.reduceNe, Int.le_refl, Nat.le_refl, Nat.reduceAdd, ne_eq, not_false_eq_true, reduceCtorEq, beq_true, beq_false, BEq.rfl, Bool.not_true, Bool.not_false, decide_true, decide_false, exists_prop, Hp.setBlk_blk, Hp.setSp, Hp.setBlk] at hi ⊢
                by_cases e1 : i = b11
                · subst e1; simpa [objsAV, iv] using hi
                · by_cases e2 : i = b14
                  · subst e2; simp [Ne.symm n4, Ne.symm n11, hpb14] at hi
                  · simpa [e1, e2] using hi
              · simp [go_sem, intsAV, objsAV, iv, n11]
            · skip
              refine ⟨rfl, by simp, fun hd => ?_⟩
              refine append_by (a := objsAV ho' l') (b := .lst 3 hd [RObj.av ⟨(newA G L a : Nat), r.tag, h70, r.fs.map (mvWord G L)⟩]) (l1 := [(111, 3, hd)]) (l2 := (3, 1, h7) :: hp.sp) (h := ho') (h2 := hd) Try.k29 Try.s111 Try.y111 Try.z111 rfl (by decide)
                (by simp [go_sem, objsAV]) (Cast.refl _) (by simp [go_sem, RObj.av, RObj.cs]) (Cast.refl _) (by simp [go_sem]) (by simp [go_sem, RObj.av, RObj.cs]) (by simp [maxLen]; omega) (by simp; omega) (by simp [go_sem]) (fun h' => ?_)
              simp only [go_sem, Int.natCast_nonneg, Nat.reduceEqDiff, Nat.reduceAdd, Nat.reduceSub, Nat.reduceLT, Nat.reduceMul, Nat.reduceBEq, Nat.reduceLeDiff, ↓reduceIte, Int.toNat_natCast, Int.reduceToNat, Int.toNat_zero, Int.toNat_one, not_true_eq_false, false_or, or_self, Nat.reduceGT, Option.isSome_some, Bool.and_self, Nat.zero_add, Nat.mul_one, List.length_map, List.take_length, Int.cast_ofNat_Int, Int.reduceLE, Int.reduceLT, Int.reduceGE, Int.reduceGT, Int.reduceEq, Int.reduceNe, Int.le_refl, Nat.le_refl, Nat.reduceAdd, ne_eq, not_false_eq_true, reduceCtorEq, beq_true, beq_false, BEq.rfl, Bool.not_true, Bool.not_false, decide_true, decide_false, exists_prop, hwu, n11, Ne.symm n11]
              refine ⟨(k + 1, h', l' ++ [⟨(newA G L a : Nat), r.tag, h70, r.fs.map (mvWord G L)⟩]), by simp only; omega, ⟨by simp only; omega, mr_mv hm' hok.nd ha hrtg hrf h70⟩, le_mkSl rfl ?_ ?_⟩
              · refine ⟨fun i x hi => ?_, fun _ _ h => h, List.sublist_cons_self _ _, fun _ h => h⟩
                simp only [go_sem, Int.natCast_nonneg, Nat.reduceEqDiff, Nat.reduceAdd, Nat.reduceSub, Nat.reduceLT, Nat.reduceMul, Nat.reduceBEq, Nat.reduceLeDiff, ↓reduceIte, Int.toNat_natCast, Int.reduceToNat, Int.toNat_zero, Int.toNat_one, not_true_eq_false, false_or, or_self, Nat.reduceGT, Option.isSome_some, Bool.and_self, Nat.zero_add, Nat.mul_one, List.length_map, List.take_length, Int.cast_ofNat_Int, Int.reduceLE, Int.reduceLT, Int.reduceGE, Int.reduceGT, Int.reduceEq, Int.reduceNe, Int.le_refl, Nat.le_refl, Nat.reduceAdd, ne_eq, not_false_eq_true, reduceCtorEq, beq_true, beq_false, BEq.rfl, Bool.not_true, Bool.not_false, decide_true, decide_false, exists_prop, Hp.setBlk_blk, Hp.setSp, Hp.setBlk] at hi ⊢
                by_cases e1 : i = b11
                · subst e1; simpa [objsAV, iv] using hi
                · by_cases e2 : i = b14
                  · subst e2; simp [Ne.symm n4, Ne.symm n11, hpb14] at hi
                  · simpa [e1, e2] using hi
              · simp [go_sem, intsAV, objsAV, iv, n11]
    · have e : k = L.length := by simp at h1; omega
      subst e
      rw [List.take_length] at hm'
      refine draw_by (mu := [4, 11, 14, 74]) (fun h => h.blk b11 = some (31, [.v (.int .i64 size), .lst 3 ho' (l'.map RObj.av)])) (.take 0 (.take 1 (.take 2 (.take 3 (.br 4 (.br 5 (.take 6 (.done)) (.stop)) (.stop)))))) (by decide +kernel) (by simp only [go_sem, Int.natCast_nonneg, Nat.reduceEqDiff, Nat.reduceAdd, Nat.reduceSub, Nat.reduceLT, Nat.reduceMul, Nat.reduceBEq, Nat.reduceLeDiff, ↓reduceIte, Int.toNat_natCast, Int.reduceToNat, Int.toNat_zero, Int.toNat_one, not_true_eq_false, false_or, or_self, Nat.reduceGT, Option.isSome_some, Bool.and_self, Nat.zero_add, Nat.mul_one, List.length_map, List.take_length, Int.cast_ofNat_Int, Int.reduceLE, Int.reduceLT, Int.reduceGE, Int.reduceGT, Int.reduceEq, Int.reduceNe, Int.le_refl, Nat.le_refl, Nat.reduceAdd, ne_eq, not_false_eq_true, reduceCtorEq, beq_true, beq_false, BEq.rfl, Bool.not_true, Bool.not_false, decide_true, decide_false, exists_prop]) (by decide +kernel) (by decide +kernel) ?_
      simp only [go_sem, Int.natCast_nonneg, Nat.reduceEqDiff, Nat.reduceAdd, Nat.reduceSub, Nat.reduceLT, Nat.reduceMul, Nat.reduceBEq, Nat.reduceLeDiff, ↓reduceIte, Int.toNat_natCast, Int.reduceToNat, Int.toNat_zero, Int.toNat_one, not_true_eq_false, false_or, or_self, Nat.reduceGT, Option.isSome_some, Bool.and_self, Nat.zero_add, Nat.mul_one, List.length_map, List.take_length, Int.cast_ofNat_Int, Int.reduceLE, Int.reduceLT, Int.reduceGE, Int.reduceGT, Int.reduceEq, Int.reduceNe, Int.le_refl, Nat.le_refl, Nat.reduceAdd, ne_eq, not_false_eq_true, reduceCtorEq, beq_true, beq_false, BEq.rfl, Bool.not_true, Bool.not_false, decide_true, decide_false, exists_prop]
      refine ⟨fun h e => by rw [e]; simp only [go_sem, Int.natCast_nonneg, Nat.reduceEqDiff, Nat.reduceAdd, Nat.reduceSub, Nat.reduceLT, Nat.reduceMul, Nat.reduceBEq, Nat.reduceLeDiff, ↓reduceIte, Int.toNat_natCast, Int.reduceToNat, Int.toNat_zero, Int.toNat_one, not_true_eq_false, false_or, or_self, Nat.reduceGT, Option.isSome_some, Bool.and_self, Nat.zero_add, Nat.mul_one, List.length_map, List.take_length, Int.cast_ofNat_Int, Int.reduceLE, Int.reduceLT, Int.reduceGE, Int.reduceGT, Int.reduceEq, Int.reduceNe, Int.le_refl, Nat.le_refl, Nat.reduceAdd, ne_eq, not_false_eq_true, reduceCtorEq, beq_true, beq_false, BEq.rfl, Bool.not_true, Bool.not_false, decide_true, decide_false, exists_prop], ?_⟩
      refine callX_by (moved_calls (G := G) hr h6 h7 roots ‹∀ w ∈ roots, w.ref = true → w.n ∈ L› (by omega) (by omega) _) ?_
      rintro r hp3 ⟨⟨h70, rfl⟩, rfl⟩
      simp only [go_sem, Int.natCast_nonneg, Nat.reduceEqDiff, Nat.reduceAdd, Nat.reduceSub, Nat.reduceLT, Nat.reduceMul, Nat.reduceBEq, Nat.reduceLeDiff, ↓reduceIte, Int.toNat_natCast, Int.reduceToNat, Int.toNat_zero, Int.toNat_one, not_true_eq_false, false_or, or_self, Nat.reduceGT, Option.isSome_some, Bool.and_self, Nat.zero_add, Nat.mul_one, List.length_map, List.take_length, Int.cast_ofNat_Int, Int.reduceLE, Int.reduceLT, Int.reduceGE, Int.reduceGT, Int.reduceEq, Int.reduceNe, Int.le_refl, Nat.le_refl, Nat.reduceAdd, ne_eq, not_false_eq_true, reduceCtorEq, beq_true, beq_false, BEq.rfl, Bool.not_true, Bool.not_false, decide_true, decide_false, exists_prop, n411, Ne.symm n411]
      refine ret_le (hp' := hp) ⟨fun i x hi => ?_, fun _ _ h => h, (List.sublist_cons_self _ _).trans (List.sublist_cons_self _ _), fun _ h => h⟩ ⟨⟨ho', l', h70, by rw [hcollR]; rfl, by rw [hcollG]; exact hm'⟩, rfl⟩
      have hb4n : hp.blk b4 = none := hb4.1
      have e1 : i ≠ b4 := by rintro rfl; rw [hb4n] at hi; cases hi
      have e2 : i ≠ b11 := by rintro rfl; rw [hpb11] at hi; cases hi
      simp [Hp.setBlk, Hp.setSp, e1, e2, hi]
end Go.Proofs.Ytfdlfcafcjhpmaa
