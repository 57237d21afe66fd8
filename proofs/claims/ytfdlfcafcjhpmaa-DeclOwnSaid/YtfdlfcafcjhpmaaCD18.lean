/- DeclForms and DeclTypes. -/
import Derived.Test.YtfdlfcafcjhpmaaCD14
set_option linter.unusedSimpArgs false
set_option linter.unusedVariables false
set_option maxRecDepth 20000
set_option maxHeartbeats 4000000
namespace Go.Proofs.Ytfdlfcafcjhpmaa
open Go.AL

/-! ### The last consumer -/
theorem all_snd {α : Type} (f : α → Bool) (l : List α) (k : Nat) : (l.zipIdx k).all (fun p => f p.1) = l.all f := by
  induction l generalizing k with
  | nil => rfl
  | cons a l ih => simp only [List.zipIdx_cons, List.all_cons, ih]
theorem resOk_snoc (i : List ArgG) (a : ArgG) : resOk (i ++ [a]) = (i.all (fun a => !a.co) && a.co) := by
  have e : ((i.length : Int) = ((i ++ [a]).length : Int) - 1) = True := by simp
  simp only [resOk, List.zipIdx_append, List.all_append, List.zipIdx_cons, List.zipIdx_nil, List.all_cons, List.all_nil, Bool.and_true, Nat.zero_add, e, decide_true, beq_true]
  congr 1
  rw [← all_snd (fun a : ArgG => !a.co) i 0, Bool.eq_iff_iff, List.all_eq_true, List.all_eq_true]
  have hp : ∀ p ∈ i.zipIdx, (p.1.co == decide ((p.2 : Int) = ((i ++ [a]).length : Int) - 1)) = !p.1.co := by
    intro p hp
    rw [List.mem_zipIdx_iff_getElem?] at hp
    have hl : p.2 < i.length := by
      rcases Nat.lt_or_ge p.2 i.length with h | h
      · exact h
      · rw [List.getElem?_eq_none h] at hp; cases hp
    have : ¬ ((p.2 : Int) = ((i ++ [a]).length : Int) - 1) := by simp; omega
    rw [decide_eq_false this]; cases p.1.co <;> rfl
  constructor
  · intro h p hq; rw [← hp p hq]; exact h p hq
  · intro h p hq; rw [hp p hq]; exact h p hq
theorem consN_zero (l : List ArgG) : l.all (fun a => !a.co) = decide (consN l = 0) := by
  induction l with
  | nil => rfl
  | cons a l ih =>
    rw [consN_cons, List.all_cons, ih]
    cases a.co <;> simp
theorem consN_app (l r : List ArgG) : consN (l ++ r) = consN l + consN r := by simp [consN]
theorem ends_same (args : List ArgG) : (resultG args).isSome = endsB args := by
  rcases List.eq_nil_or_concat args with rfl | ⟨i, a, rfl⟩
  · rfl
  · simp only [List.concat_eq_append]
    have h1 : (i ++ [a]).getLast? = some a := by simp
    simp only [resultG, endsB, resOk_snoc, h1, Option.map_some, Option.getD_some, consN_app, consN_zero]
    cases hc : a.co
    · simp [hc]
    · have : consN [a] = 1 := by simp [consN, hc]
      rw [this]
      by_cases h : consN i = 0
      · simp [h]
      · simp [h]; omega
theorem sourceX_same (co : Bool) (x : XtorG) : sourceX co x = rsourceX co x := by
  cases co
  · simp only [sourceX, rsourceX, Bool.false_and, Bool.not_false, Bool.true_and, Bool.false_or, consN_zero, Bool.false_eq_true, if_false]
    by_cases h : consN x.args = 0
    · simp [h]
    · simp [h]; omega
  · simp only [sourceX, rsourceX, if_true, ends_same]
    simp
theorem source_same (l : List DeclG) : sourceB l = rsourceB l := by
  have : sourceX = rsourceX := by funext c x; exact sourceX_same c x
  simp only [sourceB, rsourceB, this]

theorem sameBools_refl (s : List Bool) : sameBy (fun x y => x == y) s s = true := by
  induction s with
  | nil => rfl
  | cons a s ih => simp only [sameBy, ih]; simp

/-- SameBools of two rows that are both the call's own. -/
theorem sameRaw2_calls (b c : Nat) (s t : List Bool) (hs : s.length ≤ maxLen) (ht : t.length ≤ maxLen) (hbc : b ≠ c) (hp : Hp) (hb : hp.blk b = some (4, bv s)) (hc : hp.blk c = some (4, bv t)) :
    ACalls Try.prog 44 [blk1 b s.length, blk1 c t.length] hp (fun r hp' => r = .v (.bool (sameBy (fun x y => x == y) s t)) ∧ hp' = (hp.delBlk c).delBlk b) :=
  acalls_pub (pre := [blk1 b s.length]) (post := []) (sz := 1) hc (bv_flat t) (fun x hx => by obtain ⟨y, _, rfl⟩ := List.mem_map.1 hx; rfl) (by simp) ht
    (fun m _ => by rw [AV.oks_iff]; intro a ha; obtain ⟨y, _, rfl⟩ := List.mem_map.1 ha; trivial)
    (sameRaw1_calls b s t _ hs (hp.delBlk c) (by simp [Hp.delBlk, hbc, hb]))

theorem del2_le {hp : Hp} {b c : Nat} {T T' : TypeId} {x y : List AV} (hb : hp.blk b = none) (hc : hp.blk c = none) : hp.le ((((hp.setBlk b T x).setBlk c T' y).delBlk c).delBlk b) := by
  refine ⟨fun j z hj => ?_, fun _ _ h => h, List.Sublist.refl _, fun _ h => h⟩
  have h1 : j ≠ b := by rintro rfl; rw [hb] at hj; cases hj
  have h2 : j ≠ c := by rintro rfl; rw [hc] at hj; cases hj
  simp [Hp.delBlk, Hp.setBlk, h1, h2, hj]

theorem declForms_calls (hd : Value) (l : List DeclG) (hp : Hp) (hg : GOk hp) : ACalls Try.prog 8 [declsAV hd l] hp (fun r hp' => r = .v (.bool true) ∧ hp' = hp) := by
  refine acalls_of Try.func8 rfl (by decide +kernel) (awp_sound (mu := []) _ _ _ ?_)
  simp only [go_sem, Int.natCast_nonneg, Nat.reduceEqDiff, Nat.reduceAdd, Nat.reduceSub, Nat.reduceLT, Nat.reduceMul, Nat.reduceBEq, Nat.reduceLeDiff, ↓reduceIte, Int.toNat_natCast, Int.reduceToNat, Int.toNat_zero, Int.toNat_one, not_true_eq_false, false_or, or_self, Nat.reduceGT, Option.isSome_some, Bool.and_self, Nat.zero_add, Nat.mul_one, List.length_map, List.take_length, Int.cast_ofNat_Int, Int.reduceLE, Int.reduceLT, Int.reduceGE, Int.reduceGT, Int.reduceEq, Int.reduceNe, Int.le_refl, Nat.le_refl, Nat.reduceAdd, ne_eq, not_false_eq_true, reduceCtorEq, beq_true, beq_false, BEq.rfl, Bool.not_true, Bool.not_false, decide_true, decide_false, exists_prop]
  refine callX_by (check_calls hd l _ hg) ?_
  rintro r hp2 ⟨rfl, rfl⟩
  simp only [go_sem, Int.natCast_nonneg, Nat.reduceEqDiff, Nat.reduceAdd, Nat.reduceSub, Nat.reduceLT, Nat.reduceMul, Nat.reduceBEq, Nat.reduceLeDiff, ↓reduceIte, Int.toNat_natCast, Int.reduceToNat, Int.toNat_zero, Int.toNat_one, not_true_eq_false, false_or, or_self, Nat.reduceGT, Option.isSome_some, Bool.and_self, Nat.zero_add, Nat.mul_one, List.length_map, List.take_length, Int.cast_ofNat_Int, Int.reduceLE, Int.reduceLT, Int.reduceGE, Int.reduceGT, Int.reduceEq, Int.reduceNe, Int.le_refl, Nat.le_refl, Nat.reduceAdd, ne_eq, not_false_eq_true, reduceCtorEq, beq_true, beq_false, BEq.rfl, Bool.not_true, Bool.not_false, decide_true, decide_false, exists_prop]
  refine callX_by (source_calls hd l _ hg) ?_
  rintro r hp3 ⟨rfl, rfl⟩
  simp only [go_sem, Int.natCast_nonneg, Nat.reduceEqDiff, Nat.reduceAdd, Nat.reduceSub, Nat.reduceLT, Nat.reduceMul, Nat.reduceBEq, Nat.reduceLeDiff, ↓reduceIte, Int.toNat_natCast, Int.reduceToNat, Int.toNat_zero, Int.toNat_one, not_true_eq_false, false_or, or_self, Nat.reduceGT, Option.isSome_some, Bool.and_self, Nat.zero_add, Nat.mul_one, List.length_map, List.take_length, Int.cast_ofNat_Int, Int.reduceLE, Int.reduceLT, Int.reduceGE, Int.reduceGT, Int.reduceEq, Int.reduceNe, Int.le_refl, Nat.le_refl, Nat.reduceAdd, ne_eq, not_false_eq_true, reduceCtorEq, beq_true, beq_false, BEq.rfl, Bool.not_true, Bool.not_false, decide_true, decide_false, exists_prop]
  refine callX_by (decl_string_calls hd l _ hg) ?_
  rintro r hp4 ⟨rfl, rfl⟩
  simp only [go_sem, Int.natCast_nonneg, Nat.reduceEqDiff, Nat.reduceAdd, Nat.reduceSub, Nat.reduceLT, Nat.reduceMul, Nat.reduceBEq, Nat.reduceLeDiff, ↓reduceIte, Int.toNat_natCast, Int.reduceToNat, Int.toNat_zero, Int.toNat_one, not_true_eq_false, false_or, or_self, Nat.reduceGT, Option.isSome_some, Bool.and_self, Nat.zero_add, Nat.mul_one, List.length_map, List.take_length, Int.cast_ofNat_Int, Int.reduceLE, Int.reduceLT, Int.reduceGE, Int.reduceGT, Int.reduceEq, Int.reduceNe, Int.le_refl, Nat.le_refl, Nat.reduceAdd, ne_eq, not_false_eq_true, reduceCtorEq, beq_true, beq_false, BEq.rfl, Bool.not_true, Bool.not_false, decide_true, decide_false, exists_prop]
  refine callX_by (small_calls hd l _ hg) ?_
  rintro r hp5 hsm
  rcases hsm with ⟨hv, rfl, rfl⟩ | ⟨hv, b, s, hsm, rfl, hfr, rfl⟩
  · simp only [go_sem, Int.natCast_nonneg, Nat.reduceEqDiff, Nat.reduceAdd, Nat.reduceSub, Nat.reduceLT, Nat.reduceMul, Nat.reduceBEq, Nat.reduceLeDiff, ↓reduceIte, Int.toNat_natCast, Int.reduceToNat, Int.toNat_zero, Int.toNat_one, not_true_eq_false, false_or, or_self, Nat.reduceGT, Option.isSome_some, Bool.and_self, Nat.zero_add, Nat.mul_one, List.length_map, List.take_length, Int.cast_ofNat_Int, Int.reduceLE, Int.reduceLT, Int.reduceGE, Int.reduceGT, Int.reduceEq, Int.reduceNe, Int.le_refl, Nat.le_refl, Nat.reduceAdd, ne_eq, not_false_eq_true, reduceCtorEq, beq_true, beq_false, BEq.rfl, Bool.not_true, Bool.not_false, decide_true, decide_false, exists_prop]
    refine callX_by (ris_calls hd l _) ?_
    rintro r hp6 ⟨rfl, rfl⟩
    have hr : risB l = false := by rw [← valid_same, hv]
    simp only [go_sem, Int.natCast_nonneg, Nat.reduceEqDiff, Nat.reduceAdd, Nat.reduceSub, Nat.reduceLT, Nat.reduceMul, Nat.reduceBEq, Nat.reduceLeDiff, ↓reduceIte, Int.toNat_natCast, Int.reduceToNat, Int.toNat_zero, Int.toNat_one, not_true_eq_false, false_or, or_self, Nat.reduceGT, Option.isSome_some, Bool.and_self, Nat.zero_add, Nat.mul_one, List.length_map, List.take_length, Int.cast_ofNat_Int, Int.reduceLE, Int.reduceLT, Int.reduceGE, Int.reduceGT, Int.reduceEq, Int.reduceNe, Int.le_refl, Nat.le_refl, Nat.reduceAdd, ne_eq, not_false_eq_true, reduceCtorEq, beq_true, beq_false, BEq.rfl, Bool.not_true, Bool.not_false, decide_true, decide_false, exists_prop, hr, hv, checkE, Bool.false_eq_true, Bool.false_and]
    refine callX_by (awake_calls _ hg) ?_
    rintro r hp5 ⟨rfl, rfl⟩
    simp only [go_sem, Int.natCast_nonneg, Nat.reduceEqDiff, Nat.reduceAdd, Nat.reduceSub, Nat.reduceLT, Nat.reduceMul, Nat.reduceBEq, Nat.reduceLeDiff, ↓reduceIte, Int.toNat_natCast, Int.reduceToNat, Int.toNat_zero, Int.toNat_one, not_true_eq_false, false_or, or_self, Nat.reduceGT, Option.isSome_some, Bool.and_self, Nat.zero_add, Nat.mul_one, List.length_map, List.take_length, Int.cast_ofNat_Int, Int.reduceLE, Int.reduceLT, Int.reduceGE, Int.reduceGT, Int.reduceEq, Int.reduceNe, Int.le_refl, Nat.le_refl, Nat.reduceAdd, ne_eq, not_false_eq_true, reduceCtorEq, beq_true, beq_false, BEq.rfl, Bool.not_true, Bool.not_false, decide_true, decide_false, exists_prop]
    exact ret_same ⟨rfl, rfl⟩
  · simp only [go_sem, Int.natCast_nonneg, Nat.reduceEqDiff, Nat.reduceAdd, Nat.reduceSub, Nat.reduceLT, Nat.reduceMul, Nat.reduceBEq, Nat.reduceLeDiff, ↓reduceIte, Int.toNat_natCast, Int.reduceToNat, Int.toNat_zero, Int.toNat_one, not_true_eq_false, false_or, or_self, Nat.reduceGT, Option.isSome_some, Bool.and_self, Nat.zero_add, Nat.mul_one, List.length_map, List.take_length, Int.cast_ofNat_Int, Int.reduceLE, Int.reduceLT, Int.reduceGE, Int.reduceGT, Int.reduceEq, Int.reduceNe, Int.le_refl, Nat.le_refl, Nat.reduceAdd, ne_eq, not_false_eq_true, reduceCtorEq, beq_true, beq_false, BEq.rfl, Bool.not_true, Bool.not_false, decide_true, decide_false, exists_prop]
    have hr : risB l = true := by rw [← valid_same, hv]
    have hgb : GOk (hp4.setBlk b 4 (bv s)) := hg
    obtain ⟨hn, ht⟩ := validB_typed hv
    refine callX_by (ris_calls hd l _) ?_
    rintro r hp6 ⟨rfl, rfl⟩
    simp only [go_sem, Int.natCast_nonneg, Nat.reduceEqDiff, Nat.reduceAdd, Nat.reduceSub, Nat.reduceLT, Nat.reduceMul, Nat.reduceBEq, Nat.reduceLeDiff, ↓reduceIte, Int.toNat_natCast, Int.reduceToNat, Int.toNat_zero, Int.toNat_one, not_true_eq_false, false_or, or_self, Nat.reduceGT, Option.isSome_some, Bool.and_self, Nat.zero_add, Nat.mul_one, List.length_map, List.take_length, Int.cast_ofNat_Int, Int.reduceLE, Int.reduceLT, Int.reduceGE, Int.reduceGT, Int.reduceEq, Int.reduceNe, Int.le_refl, Nat.le_refl, Nat.reduceAdd, ne_eq, not_false_eq_true, reduceCtorEq, beq_true, beq_false, BEq.rfl, Bool.not_true, Bool.not_false, decide_true, decide_false, exists_prop, hr, hv, checkE]
    refine callX_by (rsource_calls hd l _) ?_
    rintro r hp7 ⟨rfl, rfl⟩
    simp only [go_sem, Int.natCast_nonneg, Nat.reduceEqDiff, Nat.reduceAdd, Nat.reduceSub, Nat.reduceLT, Nat.reduceMul, Nat.reduceBEq, Nat.reduceLeDiff, ↓reduceIte, Int.toNat_natCast, Int.reduceToNat, Int.toNat_zero, Int.toNat_one, not_true_eq_false, false_or, or_self, Nat.reduceGT, Option.isSome_some, Bool.and_self, Nat.zero_add, Nat.mul_one, List.length_map, List.take_length, Int.cast_ofNat_Int, Int.reduceLE, Int.reduceLT, Int.reduceGE, Int.reduceGT, Int.reduceEq, Int.reduceNe, Int.le_refl, Nat.le_refl, Nat.reduceAdd, ne_eq, not_false_eq_true, reduceCtorEq, beq_true, beq_false, BEq.rfl, Bool.not_true, Bool.not_false, decide_true, decide_false, exists_prop, hr, hv, checkE, source_same]
    refine callX_by (rstring_calls hd l (short_of hv) _) ?_
    rintro r hp8 ⟨rfl, rfl⟩
    simp only [go_sem, Int.natCast_nonneg, Nat.reduceEqDiff, Nat.reduceAdd, Nat.reduceSub, Nat.reduceLT, Nat.reduceMul, Nat.reduceBEq, Nat.reduceLeDiff, ↓reduceIte, Int.toNat_natCast, Int.reduceToNat, Int.toNat_zero, Int.toNat_one, not_true_eq_false, false_or, or_self, Nat.reduceGT, Option.isSome_some, Bool.and_self, Nat.zero_add, Nat.mul_one, List.length_map, List.take_length, Int.cast_ofNat_Int, Int.reduceLE, Int.reduceLT, Int.reduceGE, Int.reduceGT, Int.reduceEq, Int.reduceNe, Int.le_refl, Nat.le_refl, Nat.reduceAdd, ne_eq, not_false_eq_true, reduceCtorEq, beq_true, beq_false, BEq.rfl, Bool.not_true, Bool.not_false, decide_true, decide_false, exists_prop, hr, hv, checkE]
    refine callX_by (rsmall_calls hd l hn ht _) ?_
    rintro r hp9 ⟨c, t, hst, rfl, hfc, rfl⟩
    obtain rfl := isSmall_unique hsm hst
    have hlen : l.length = s.length := hsm.1.symm
    have hbc : b ≠ c := by
      rintro rfl
      have := hfc.1; simp [Hp.setBlk] at this
    have hcn : hp4.blk c = none := by
      have := hfc.1
      rw [Hp.setBlk_blk, if_neg (Ne.symm hbc)] at this; exact this
    simp only [go_sem, Int.natCast_nonneg, Nat.reduceEqDiff, Nat.reduceAdd, Nat.reduceSub, Nat.reduceLT, Nat.reduceMul, Nat.reduceBEq, Nat.reduceLeDiff, ↓reduceIte, Int.toNat_natCast, Int.reduceToNat, Int.toNat_zero, Int.toNat_one, not_true_eq_false, false_or, or_self, Nat.reduceGT, Option.isSome_some, Bool.and_self, Nat.zero_add, Nat.mul_one, List.length_map, List.take_length, Int.cast_ofNat_Int, Int.reduceLE, Int.reduceLT, Int.reduceGE, Int.reduceGT, Int.reduceEq, Int.reduceNe, Int.le_refl, Nat.le_refl, Nat.reduceAdd, ne_eq, not_false_eq_true, reduceCtorEq, beq_true, beq_false, BEq.rfl, Bool.not_true, Bool.not_false, decide_true, decide_false, exists_prop, hr, hv, checkE]
    rw [hlen]
    refine callX_by (sameRaw2_calls b c s s (by simp [maxLen]; omega) (by simp [maxLen]; omega) hbc _ (by simp [Hp.setBlk, hbc]) (by simp [Hp.setBlk])) ?_
    rintro r hp10 ⟨rfl, rfl⟩
    simp only [go_sem, Int.natCast_nonneg, Nat.reduceEqDiff, Nat.reduceAdd, Nat.reduceSub, Nat.reduceLT, Nat.reduceMul, Nat.reduceBEq, Nat.reduceLeDiff, ↓reduceIte, Int.toNat_natCast, Int.reduceToNat, Int.toNat_zero, Int.toNat_one, not_true_eq_false, false_or, or_self, Nat.reduceGT, Option.isSome_some, Bool.and_self, Nat.zero_add, Nat.mul_one, List.length_map, List.take_length, Int.cast_ofNat_Int, Int.reduceLE, Int.reduceLT, Int.reduceGE, Int.reduceGT, Int.reduceEq, Int.reduceNe, Int.le_refl, Nat.le_refl, Nat.reduceAdd, ne_eq, not_false_eq_true, reduceCtorEq, beq_true, beq_false, BEq.rfl, Bool.not_true, Bool.not_false, decide_true, decide_false, exists_prop, sameBools_refl]
    refine callX_by (awake_calls _ hg) ?_
    rintro r hp11 ⟨rfl, rfl⟩
    simp only [go_sem, Int.natCast_nonneg, Nat.reduceEqDiff, Nat.reduceAdd, Nat.reduceSub, Nat.reduceLT, Nat.reduceMul, Nat.reduceBEq, Nat.reduceLeDiff, ↓reduceIte, Int.toNat_natCast, Int.reduceToNat, Int.toNat_zero, Int.toNat_one, not_true_eq_false, false_or, or_self, Nat.reduceGT, Option.isSome_some, Bool.and_self, Nat.zero_add, Nat.mul_one, List.length_map, List.take_length, Int.cast_ofNat_Int, Int.reduceLE, Int.reduceLT, Int.reduceGE, Int.reduceGT, Int.reduceEq, Int.reduceNe, Int.le_refl, Nat.le_refl, Nat.reduceAdd, ne_eq, not_false_eq_true, reduceCtorEq, beq_true, beq_false, BEq.rfl, Bool.not_true, Bool.not_false, decide_true, decide_false, exists_prop]
    exact ret_le (hp' := hp4) (del2_le hfr.1 hcn) ⟨rfl, rfl⟩

theorem declTypes_calls (hd : Value) (l : List DeclG) (t n : Int) (hp : Hp) (hg : GOk hp) : ACalls Try.prog 9 [declsAV hd l, .v (.int .i64 t), .v (.int .i64 n)] hp (fun r hp' => r = .v (.bool true) ∧ hp' = hp) := by
  refine acalls_fit (callable_of Try.func9 (by decide +kernel)) fun hfit => ?_
  have hl := fit_decls hfit.1
  refine acalls_of Try.func9 rfl (by decide +kernel) (awp_sound (mu := []) _ _ _ ?_)
  simp only [go_sem, Int.natCast_nonneg, Nat.reduceEqDiff, Nat.reduceAdd, Nat.reduceSub, Nat.reduceLT, Nat.reduceMul, Nat.reduceBEq, Nat.reduceLeDiff, ↓reduceIte, Int.toNat_natCast, Int.reduceToNat, Int.toNat_zero, Int.toNat_one, not_true_eq_false, false_or, or_self, Nat.reduceGT, Option.isSome_some, Bool.and_self, Nat.zero_add, Nat.mul_one, List.length_map, List.take_length, Int.cast_ofNat_Int, Int.reduceLE, Int.reduceLT, Int.reduceGE, Int.reduceGT, Int.reduceEq, Int.reduceNe, Int.le_refl, Nat.le_refl, Nat.reduceAdd, ne_eq, not_false_eq_true, reduceCtorEq, beq_true, beq_false, BEq.rfl, Bool.not_true, Bool.not_false, decide_true, decide_false, exists_prop]
  refine callX_by (positive_calls hd l t _ hg) ?_
  rintro r hp2 ⟨rfl, rfl⟩
  simp only [go_sem, Int.natCast_nonneg, Nat.reduceEqDiff, Nat.reduceAdd, Nat.reduceSub, Nat.reduceLT, Nat.reduceMul, Nat.reduceBEq, Nat.reduceLeDiff, ↓reduceIte, Int.toNat_natCast, Int.reduceToNat, Int.toNat_zero, Int.toNat_one, not_true_eq_false, false_or, or_self, Nat.reduceGT, Option.isSome_some, Bool.and_self, Nat.zero_add, Nat.mul_one, List.length_map, List.take_length, Int.cast_ofNat_Int, Int.reduceLE, Int.reduceLT, Int.reduceGE, Int.reduceGT, Int.reduceEq, Int.reduceNe, Int.le_refl, Nat.le_refl, Nat.reduceAdd, ne_eq, not_false_eq_true, reduceCtorEq, beq_true, beq_false, BEq.rfl, Bool.not_true, Bool.not_false, decide_true, decide_false, exists_prop]
  refine callX_by (resultT_calls hd l t n _ hg) ?_
  rintro r hp3 ⟨rfl, rfl⟩
  simp only [go_sem, Int.natCast_nonneg, Nat.reduceEqDiff, Nat.reduceAdd, Nat.reduceSub, Nat.reduceLT, Nat.reduceMul, Nat.reduceBEq, Nat.reduceLeDiff, ↓reduceIte, Int.toNat_natCast, Int.reduceToNat, Int.toNat_zero, Int.toNat_one, not_true_eq_false, false_or, or_self, Nat.reduceGT, Option.isSome_some, Bool.and_self, Nat.zero_add, Nat.mul_one, List.length_map, List.take_length, Int.cast_ofNat_Int, Int.reduceLE, Int.reduceLT, Int.reduceGE, Int.reduceGT, Int.reduceEq, Int.reduceNe, Int.le_refl, Nat.le_refl, Nat.reduceAdd, ne_eq, not_false_eq_true, reduceCtorEq, beq_true, beq_false, BEq.rfl, Bool.not_true, Bool.not_false, decide_true, decide_false, exists_prop]
  refine callX_by (ris_calls hd l _) ?_
  rintro r hp4 ⟨rfl, rfl⟩
  simp only [go_sem, Int.natCast_nonneg, Nat.reduceEqDiff, Nat.reduceAdd, Nat.reduceSub, Nat.reduceLT, Nat.reduceMul, Nat.reduceBEq, Nat.reduceLeDiff, ↓reduceIte, Int.toNat_natCast, Int.reduceToNat, Int.toNat_zero, Int.toNat_one, not_true_eq_false, false_or, or_self, Nat.reduceGT, Option.isSome_some, Bool.and_self, Nat.zero_add, Nat.mul_one, List.length_map, List.take_length, Int.cast_ofNat_Int, Int.reduceLE, Int.reduceLT, Int.reduceGE, Int.reduceGT, Int.reduceEq, Int.reduceNe, Int.le_refl, Nat.le_refl, Nat.reduceAdd, ne_eq, not_false_eq_true, reduceCtorEq, beq_true, beq_false, BEq.rfl, Bool.not_true, Bool.not_false, decide_true, decide_false, exists_prop]
  refine brK_mk (fun h => ?_) (fun h => ?_)
  · have hv : validB l = true := by rw [valid_same, h]
    by_cases hr : t < 0 ∨ (l.length : Int) < t
    · have hb : (decide (t < 0) || decide (t > l.length)) = true := by simpa using hr
      have ha : resArgB l t n = true := by
        have : (decide (t < 1) || decide (t > (l.length : Int))) = true := by simp; omega
        simp only [resArgB, this, Bool.true_or]
      have e1 : posB l t = false := by simp only [posB, hb, Bool.not_true, Bool.and_false, Bool.false_and]
      have e2 : posE l t = 1 := by simp only [posE, hv, hb, if_true]
      have e3 : resV l t n = 0 := by simp only [resV, hv, resO, ha, if_true]; rfl
      have e4 : resE l t n = 1 := by simp only [resE, hv, resO, ha, if_true]; rfl
      simp only [go_sem, Int.natCast_nonneg, Nat.reduceEqDiff, Nat.reduceAdd, Nat.reduceSub, Nat.reduceLT, Nat.reduceMul, Nat.reduceBEq, Nat.reduceLeDiff, ↓reduceIte, Int.toNat_natCast, Int.reduceToNat, Int.toNat_zero, Int.toNat_one, not_true_eq_false, false_or, or_self, Nat.reduceGT, Option.isSome_some, Bool.and_self, Nat.zero_add, Nat.mul_one, List.length_map, List.take_length, Int.cast_ofNat_Int, Int.reduceLE, Int.reduceLT, Int.reduceGE, Int.reduceGT, Int.reduceEq, Int.reduceNe, Int.le_refl, Nat.le_refl, Nat.reduceAdd, ne_eq, not_false_eq_true, reduceCtorEq, beq_true, beq_false, BEq.rfl, Bool.not_true, Bool.not_false, decide_true, decide_false, exists_prop, h, e1, e2, e3, e4]
      by_cases h2 : decide (t < 0) = true
      · refine brK_mk (fun h3 => ?_) (fun h3 => ?_) <;> simp only [go_sem, Int.natCast_nonneg, Nat.reduceEqDiff, Nat.reduceAdd, Nat.reduceSub, Nat.reduceLT, Nat.reduceMul, Nat.reduceBEq, Nat.reduceLeDiff, ↓reduceIte, Int.toNat_natCast, Int.reduceToNat, Int.toNat_zero, Int.toNat_one, not_true_eq_false, false_or, or_self, Nat.reduceGT, Option.isSome_some, Bool.and_self, Nat.zero_add, Nat.mul_one, List.length_map, List.take_length, Int.cast_ofNat_Int, Int.reduceLE, Int.reduceLT, Int.reduceGE, Int.reduceGT, Int.reduceEq, Int.reduceNe, Int.le_refl, Nat.le_refl, Nat.reduceAdd, ne_eq, not_false_eq_true, reduceCtorEq, beq_true, beq_false, BEq.rfl, Bool.not_true, Bool.not_false, decide_true, decide_false, exists_prop, h3]
        · refine callX_by (awake_calls _ hg) ?_
          rintro r hp5 ⟨rfl, rfl⟩
          simp only [go_sem, Int.natCast_nonneg, Nat.reduceEqDiff, Nat.reduceAdd, Nat.reduceSub, Nat.reduceLT, Nat.reduceMul, Nat.reduceBEq, Nat.reduceLeDiff, ↓reduceIte, Int.toNat_natCast, Int.reduceToNat, Int.toNat_zero, Int.toNat_one, not_true_eq_false, false_or, or_self, Nat.reduceGT, Option.isSome_some, Bool.and_self, Nat.zero_add, Nat.mul_one, List.length_map, List.take_length, Int.cast_ofNat_Int, Int.reduceLE, Int.reduceLT, Int.reduceGE, Int.reduceGT, Int.reduceEq, Int.reduceNe, Int.le_refl, Nat.le_refl, Nat.reduceAdd, ne_eq, not_false_eq_true, reduceCtorEq, beq_true, beq_false, BEq.rfl, Bool.not_true, Bool.not_false, decide_true, decide_false, exists_prop]
          exact ret_same ⟨rfl, rfl⟩
        · rw [h2] at h3; cases h3
      · have h4 : decide (t > (l.length : Int)) = true := by
          simp only [decide_eq_true_eq] at h2 ⊢
          omega
        have h2' : decide (t < 0) = false := by simpa using h2
        simp only [h2', h4, go_sem, Int.natCast_nonneg, Nat.reduceEqDiff, Nat.reduceAdd, Nat.reduceSub, Nat.reduceLT, Nat.reduceMul, Nat.reduceBEq, Nat.reduceLeDiff, ↓reduceIte, Int.toNat_natCast, Int.reduceToNat, Int.toNat_zero, Int.toNat_one, not_true_eq_false, false_or, or_self, Nat.reduceGT, Option.isSome_some, Bool.and_self, Nat.zero_add, Nat.mul_one, List.length_map, List.take_length, Int.cast_ofNat_Int, Int.reduceLE, Int.reduceLT, Int.reduceGE, Int.reduceGT, Int.reduceEq, Int.reduceNe, Int.le_refl, Nat.le_refl, Nat.reduceAdd, ne_eq, not_false_eq_true, reduceCtorEq, beq_true, beq_false, BEq.rfl, Bool.not_true, Bool.not_false, decide_true, decide_false, exists_prop, declsAV, List.length_map]
        refine callX_by (awake_calls _ hg) ?_
        rintro r hp5 ⟨rfl, rfl⟩
        simp only [go_sem, Int.natCast_nonneg, Nat.reduceEqDiff, Nat.reduceAdd, Nat.reduceSub, Nat.reduceLT, Nat.reduceMul, Nat.reduceBEq, Nat.reduceLeDiff, ↓reduceIte, Int.toNat_natCast, Int.reduceToNat, Int.toNat_zero, Int.toNat_one, not_true_eq_false, false_or, or_self, Nat.reduceGT, Option.isSome_some, Bool.and_self, Nat.zero_add, Nat.mul_one, List.length_map, List.take_length, Int.cast_ofNat_Int, Int.reduceLE, Int.reduceLT, Int.reduceGE, Int.reduceGT, Int.reduceEq, Int.reduceNe, Int.le_refl, Nat.le_refl, Nat.reduceAdd, ne_eq, not_false_eq_true, reduceCtorEq, beq_true, beq_false, BEq.rfl, Bool.not_true, Bool.not_false, decide_true, decide_false, exists_prop]
        exact ret_same ⟨rfl, rfl⟩
    · have h0 : 0 ≤ t := by omega
      have h1 : t ≤ l.length := by omega
      have h2' : decide (t < 0) = false := by simp; omega
      have h4 : decide (t > (l.length : Int)) = false := by simp; omega
      have e1 : posB l t = !rcodataB l t := by
        simp only [posB, hv, h2', h4, Bool.or_self, Bool.not_false, Bool.true_and, plusB, rcodataB, codataB]
        by_cases hz : t = 0
        · subst hz; rfl
        · have h5 : decide (t ≥ 1) = true := by simp; omega
          have h6 : decide (t ≤ (l.length : Int)) = true := by simp; omega
          have h7 : decide (t = 0) = false := by simp [hz]
          simp only [h5, h6, h7, Bool.true_and, Bool.false_or]
      have e2 : posE l t = 0 := by simp only [posE, hv, h2', h4, Bool.or_self, if_true, Bool.false_eq_true, if_false]
      simp only [go_sem, Int.natCast_nonneg, Nat.reduceEqDiff, Nat.reduceAdd, Nat.reduceSub, Nat.reduceLT, Nat.reduceMul, Nat.reduceBEq, Nat.reduceLeDiff, ↓reduceIte, Int.toNat_natCast, Int.reduceToNat, Int.toNat_zero, Int.toNat_one, not_true_eq_false, false_or, or_self, Nat.reduceGT, Option.isSome_some, Bool.and_self, Nat.zero_add, Nat.mul_one, List.length_map, List.take_length, Int.cast_ofNat_Int, Int.reduceLE, Int.reduceLT, Int.reduceGE, Int.reduceGT, Int.reduceEq, Int.reduceNe, Int.le_refl, Nat.le_refl, Nat.reduceAdd, ne_eq, not_false_eq_true, reduceCtorEq, beq_true, beq_false, BEq.rfl, Bool.not_true, Bool.not_false, decide_true, decide_false, exists_prop, h, e1, e2, h2', h4, declsAV, List.length_map]
      refine callX_by (rcodata_calls hd l t _) ?_
      rintro r hp5 ⟨rfl, rfl⟩
      have ec : (!rcodataB l t != !rcodataB l t) = false := by simp
      simp only [go_sem, Int.natCast_nonneg, Nat.reduceEqDiff, Nat.reduceAdd, Nat.reduceSub, Nat.reduceLT, Nat.reduceMul, Nat.reduceBEq, Nat.reduceLeDiff, ↓reduceIte, Int.toNat_natCast, Int.reduceToNat, Int.toNat_zero, Int.toNat_one, not_true_eq_false, false_or, or_self, Nat.reduceGT, Option.isSome_some, Bool.and_self, Nat.zero_add, Nat.mul_one, List.length_map, List.take_length, Int.cast_ofNat_Int, Int.reduceLE, Int.reduceLT, Int.reduceGE, Int.reduceGT, Int.reduceEq, Int.reduceNe, Int.le_refl, Nat.le_refl, Nat.reduceAdd, ne_eq, not_false_eq_true, reduceCtorEq, beq_true, beq_false, BEq.rfl, Bool.not_true, Bool.not_false, decide_true, decide_false, exists_prop, h, e1, e2, ec]
      refine callX_by (rcodata_calls hd l t _) ?_
      rintro r hp6 ⟨rfl, rfl⟩
      have refuse : resArgB l t n = true → resV l t n = 0 ∧ resE l t n = 1 := fun ha => by
        constructor
        · simp only [resV, hv, resO, ha, if_true]; rfl
        · simp only [resE, hv, resO, ha, if_true]; rfl
      cases hrc : rcodataB l t with
      | false =>
        have ha : resArgB l t n = true := by
          simp only [rcodataB, Bool.and_eq_false_iff, decide_eq_false_iff_not] at hrc
          simp only [resArgB]
          rcases hrc with (hx | hx) | hx
          · have : decide (t < 1) = true := by simp; omega
            simp only [this, Bool.true_or]
          · omega
          · simp only [hx, Bool.not_false, Bool.true_or, Bool.or_true]
        obtain ⟨e3, e4⟩ := refuse ha
        simp only [go_sem, Int.natCast_nonneg, Nat.reduceEqDiff, Nat.reduceAdd, Nat.reduceSub, Nat.reduceLT, Nat.reduceMul, Nat.reduceBEq, Nat.reduceLeDiff, ↓reduceIte, Int.toNat_natCast, Int.reduceToNat, Int.toNat_zero, Int.toNat_one, not_true_eq_false, false_or, or_self, Nat.reduceGT, Option.isSome_some, Bool.and_self, Nat.zero_add, Nat.mul_one, List.length_map, List.take_length, Int.cast_ofNat_Int, Int.reduceLE, Int.reduceLT, Int.reduceGE, Int.reduceGT, Int.reduceEq, Int.reduceNe, Int.le_refl, Nat.le_refl, Nat.reduceAdd, ne_eq, not_false_eq_true, reduceCtorEq, beq_true, beq_false, BEq.rfl, Bool.not_true, Bool.not_false, decide_true, decide_false, exists_prop, hrc, e3, e4]
        refine callX_by (awake_calls _ hg) ?_
        rintro r hp5 ⟨rfl, rfl⟩
        simp only [go_sem, Int.natCast_nonneg, Nat.reduceEqDiff, Nat.reduceAdd, Nat.reduceSub, Nat.reduceLT, Nat.reduceMul, Nat.reduceBEq, Nat.reduceLeDiff, ↓reduceIte, Int.toNat_natCast, Int.reduceToNat, Int.toNat_zero, Int.toNat_one, not_true_eq_false, false_or, or_self, Nat.reduceGT, Option.isSome_some, Bool.and_self, Nat.zero_add, Nat.mul_one, List.length_map, List.take_length, Int.cast_ofNat_Int, Int.reduceLE, Int.reduceLT, Int.reduceGE, Int.reduceGT, Int.reduceEq, Int.reduceNe, Int.le_refl, Nat.le_refl, Nat.reduceAdd, ne_eq, not_false_eq_true, reduceCtorEq, beq_true, beq_false, BEq.rfl, Bool.not_true, Bool.not_false, decide_true, decide_false, exists_prop]
        exact ret_same ⟨rfl, rfl⟩
      | true =>
        simp only [go_sem, Int.natCast_nonneg, Nat.reduceEqDiff, Nat.reduceAdd, Nat.reduceSub, Nat.reduceLT, Nat.reduceMul, Nat.reduceBEq, Nat.reduceLeDiff, ↓reduceIte, Int.toNat_natCast, Int.reduceToNat, Int.toNat_zero, Int.toNat_one, not_true_eq_false, false_or, or_self, Nat.reduceGT, Option.isSome_some, Bool.and_self, Nat.zero_add, Nat.mul_one, List.length_map, List.take_length, Int.cast_ofNat_Int, Int.reduceLE, Int.reduceLT, Int.reduceGE, Int.reduceGT, Int.reduceEq, Int.reduceNe, Int.le_refl, Nat.le_refl, Nat.reduceAdd, ne_eq, not_false_eq_true, reduceCtorEq, beq_true, beq_false, BEq.rfl, Bool.not_true, Bool.not_false, decide_true, decide_false, exists_prop, hrc]
        have hcd : codataB l t = true := by simp only [rcodataB, Bool.and_eq_true] at hrc; exact hrc.2
        have h1' : 1 ≤ t := by simp only [rcodataB, Bool.and_eq_true, decide_eq_true_eq] at hrc; exact hrc.1.1
        have g1 : decide (t < 1) = false := by simp; omega
        have g2 : decide (t ≥ 1) = true := by simp; omega
        have g3 : decide (t ≤ (l.length : Int)) = true := by simp; omega
        refine callX_by (has_calls hd l t n _) ?_
        rintro r hp7 ⟨rfl, rfl⟩
        have hh : hasN l t n = !(decide (n < 0) || decide (n ≥ ((xtorsOf l t).length : Int))) := by
          simp only [hasN, g2, g3, Bool.true_and]
          rw [Bool.eq_iff_iff]; simp
        cases hha : hasN l t n with
        | false =>
          have ha : resArgB l t n = true := by
            rw [hha] at hh
            have : (decide (n < 0) || decide (n ≥ ((xtorsOf l t).length : Int))) = true := by
              cases hX : (decide (n < 0) || decide (n ≥ ((xtorsOf l t).length : Int))) with
              | true => rfl
              | false => rw [hX] at hh; cases hh
            simp only [resArgB, Bool.or_assoc, this, Bool.or_true]
          obtain ⟨e3, e4⟩ := refuse ha
          simp only [go_sem, Int.natCast_nonneg, Nat.reduceEqDiff, Nat.reduceAdd, Nat.reduceSub, Nat.reduceLT, Nat.reduceMul, Nat.reduceBEq, Nat.reduceLeDiff, ↓reduceIte, Int.toNat_natCast, Int.reduceToNat, Int.toNat_zero, Int.toNat_one, not_true_eq_false, false_or, or_self, Nat.reduceGT, Option.isSome_some, Bool.and_self, Nat.zero_add, Nat.mul_one, List.length_map, List.take_length, Int.cast_ofNat_Int, Int.reduceLE, Int.reduceLT, Int.reduceGE, Int.reduceGT, Int.reduceEq, Int.reduceNe, Int.le_refl, Nat.le_refl, Nat.reduceAdd, ne_eq, not_false_eq_true, reduceCtorEq, beq_true, beq_false, BEq.rfl, Bool.not_true, Bool.not_false, decide_true, decide_false, exists_prop, hha, e3, e4]
          refine callX_by (awake_calls _ hg) ?_
          rintro r hp5 ⟨rfl, rfl⟩
          simp only [go_sem, Int.natCast_nonneg, Nat.reduceEqDiff, Nat.reduceAdd, Nat.reduceSub, Nat.reduceLT, Nat.reduceMul, Nat.reduceBEq, Nat.reduceLeDiff, ↓reduceIte, Int.toNat_natCast, Int.reduceToNat, Int.toNat_zero, Int.toNat_one, not_true_eq_false, false_or, or_self, Nat.reduceGT, Option.isSome_some, Bool.and_self, Nat.zero_add, Nat.mul_one, List.length_map, List.take_length, Int.cast_ofNat_Int, Int.reduceLE, Int.reduceLT, Int.reduceGE, Int.reduceGT, Int.reduceEq, Int.reduceNe, Int.le_refl, Nat.le_refl, Nat.reduceAdd, ne_eq, not_false_eq_true, reduceCtorEq, beq_true, beq_false, BEq.rfl, Bool.not_true, Bool.not_false, decide_true, decide_false, exists_prop]
          exact ret_same ⟨rfl, rfl⟩
        | true =>
          rw [hha] at hh
          have hb : (decide (n < 0) || decide (n ≥ ((xtorsOf l t).length : Int))) = false := by simpa using hh.symm
          have ha : resArgB l t n = false := by
            simp only [resArgB, Bool.or_assoc, hb, g1, h4, hcd, Bool.not_true, Bool.or_self]
          simp only [Bool.or_eq_false_iff, decide_eq_false_iff_not] at hb
          have hlt : (t - 1).toNat < l.length := by omega
          obtain ⟨d, hgd⟩ := some_at l (t - 1).toNat hlt
          have hxo : xtorsOf l t = d.xtors := by simp only [xtorsOf, hgd]; rfl
          have hn0 : 0 ≤ n := by omega
          have hnl : n.toNat < d.xtors.length := by rw [hxo] at hb; omega
          obtain ⟨x, hgx⟩ := some_at d.xtors n.toNat hnl
          have hmem := List.mem_of_getElem? hgd
          have hwt := wrap_t (t := t) l.length h0 h1 hl.len
          have hro : resO l t n = resultG x.args := by simp only [resO, ha, Bool.false_eq_true, if_false, hxo, hgx, Option.bind_some]
          simp only [go_sem, Int.natCast_nonneg, Nat.reduceEqDiff, Nat.reduceAdd, Nat.reduceSub, Nat.reduceLT, Nat.reduceMul, Nat.reduceBEq, Nat.reduceLeDiff, ↓reduceIte, Int.toNat_natCast, Int.reduceToNat, Int.toNat_zero, Int.toNat_one, not_true_eq_false, false_or, or_self, Nat.reduceGT, Option.isSome_some, Bool.and_self, Nat.zero_add, Nat.mul_one, List.length_map, List.take_length, Int.cast_ofNat_Int, Int.reduceLE, Int.reduceLT, Int.reduceGE, Int.reduceGT, Int.reduceEq, Int.reduceNe, Int.le_refl, Nat.le_refl, Nat.reduceAdd, ne_eq, not_false_eq_true, reduceCtorEq, beq_true, beq_false, BEq.rfl, Bool.not_true, Bool.not_false, decide_true, decide_false, exists_prop, hha, hwt, map_at DeclG.av _ _ _ hgd, DeclG.av, DeclG.cs]
          refine ⟨by omega, hn0, ?_⟩
          simp only [go_sem, Int.natCast_nonneg, Nat.reduceEqDiff, Nat.reduceAdd, Nat.reduceSub, Nat.reduceLT, Nat.reduceMul, Nat.reduceBEq, Nat.reduceLeDiff, ↓reduceIte, Int.toNat_natCast, Int.reduceToNat, Int.toNat_zero, Int.toNat_one, not_true_eq_false, false_or, or_self, Nat.reduceGT, Option.isSome_some, Bool.and_self, Nat.zero_add, Nat.mul_one, List.length_map, List.take_length, Int.cast_ofNat_Int, Int.reduceLE, Int.reduceLT, Int.reduceGE, Int.reduceGT, Int.reduceEq, Int.reduceNe, Int.le_refl, Nat.le_refl, Nat.reduceAdd, ne_eq, not_false_eq_true, reduceCtorEq, beq_true, beq_false, BEq.rfl, Bool.not_true, Bool.not_false, decide_true, decide_false, exists_prop, map_at XtorG.av _ _ _ hgx, XtorG.av, XtorG.cs]
          have hxl := hl.ar d hmem x (List.mem_of_getElem? hgx)
          refine callX_by (ends_calls x _) ?_
          rintro r hp8 ⟨rfl, rfl⟩
          cases hen : endsB x.args with
          | false =>
            have hrn : resultG x.args = none := by
              have := ends_same x.args
              rw [hen] at this
              cases hx : resultG x.args with
              | none => rfl
              | some v => rw [hx] at this; cases this
            have e3 : resV l t n = 0 := by simp only [resV, hv, hro, hrn, if_true]; rfl
            have e4 : resE l t n = 1 := by simp only [resE, hv, hro, hrn, if_true]; rfl
            simp only [go_sem, Int.natCast_nonneg, Nat.reduceEqDiff, Nat.reduceAdd, Nat.reduceSub, Nat.reduceLT, Nat.reduceMul, Nat.reduceBEq, Nat.reduceLeDiff, ↓reduceIte, Int.toNat_natCast, Int.reduceToNat, Int.toNat_zero, Int.toNat_one, not_true_eq_false, false_or, or_self, Nat.reduceGT, Option.isSome_some, Bool.and_self, Nat.zero_add, Nat.mul_one, List.length_map, List.take_length, Int.cast_ofNat_Int, Int.reduceLE, Int.reduceLT, Int.reduceGE, Int.reduceGT, Int.reduceEq, Int.reduceNe, Int.le_refl, Nat.le_refl, Nat.reduceAdd, ne_eq, not_false_eq_true, reduceCtorEq, beq_true, beq_false, BEq.rfl, Bool.not_true, Bool.not_false, decide_true, decide_false, exists_prop, hen, e3, e4]
            refine callX_by (awake_calls _ hg) ?_
            rintro r hp5 ⟨rfl, rfl⟩
            simp only [go_sem, Int.natCast_nonneg, Nat.reduceEqDiff, Nat.reduceAdd, Nat.reduceSub, Nat.reduceLT, Nat.reduceMul, Nat.reduceBEq, Nat.reduceLeDiff, ↓reduceIte, Int.toNat_natCast, Int.reduceToNat, Int.toNat_zero, Int.toNat_one, not_true_eq_false, false_or, or_self, Nat.reduceGT, Option.isSome_some, Bool.and_self, Nat.zero_add, Nat.mul_one, List.length_map, List.take_length, Int.cast_ofNat_Int, Int.reduceLE, Int.reduceLT, Int.reduceGE, Int.reduceGT, Int.reduceEq, Int.reduceNe, Int.le_refl, Nat.le_refl, Nat.reduceAdd, ne_eq, not_false_eq_true, reduceCtorEq, beq_true, beq_false, BEq.rfl, Bool.not_true, Bool.not_false, decide_true, decide_false, exists_prop]
            exact ret_same ⟨rfl, rfl⟩
          | true =>
            have hrs : (resultG x.args).isSome = true := by rw [ends_same, hen]
            have hrl : resultG x.args = x.args.getLast?.map ArgG.typ := by
              simp only [resultG] at hrs ⊢
              split
              · rfl
              · rename_i hq; rw [if_neg hq] at hrs; cases hrs
            have hpos : 0 < x.args.length := by
              rcases Nat.eq_zero_or_pos x.args.length with h | h
              · rw [hrl, List.eq_nil_of_length_eq_zero h] at hrs; cases hrs
              · exact h
            obtain ⟨a, hga⟩ := some_at x.args (x.args.length - 1) (by omega)
            have hi : ((x.args.length : Int) - 1).toNat = x.args.length - 1 := by omega
            have hra : resultG x.args = some a.typ := by rw [hrl, List.getLast?_eq_getElem?, hga]; rfl
            have e3 : resV l t n = a.typ := by simp only [resV, hv, hro, hra, if_true]; rfl
            have e4 : resE l t n = 0 := by simp only [resE, hv, hro, hra, if_true]; rfl
            simp only [go_sem, Int.natCast_nonneg, Nat.reduceEqDiff, Nat.reduceAdd, Nat.reduceSub, Nat.reduceLT, Nat.reduceMul, Nat.reduceBEq, Nat.reduceLeDiff, ↓reduceIte, Int.toNat_natCast, Int.reduceToNat, Int.toNat_zero, Int.toNat_one, not_true_eq_false, false_or, or_self, Nat.reduceGT, Option.isSome_some, Bool.and_self, Nat.zero_add, Nat.mul_one, List.length_map, List.take_length, Int.cast_ofNat_Int, Int.reduceLE, Int.reduceLT, Int.reduceGE, Int.reduceGT, Int.reduceEq, Int.reduceNe, Int.le_refl, Nat.le_refl, Nat.reduceAdd, ne_eq, not_false_eq_true, reduceCtorEq, beq_true, beq_false, BEq.rfl, Bool.not_true, Bool.not_false, decide_true, decide_false, exists_prop, hen, e3, e4, hwt, map_at DeclG.av _ _ _ hgd, DeclG.av, DeclG.cs]
            refine ⟨by omega, hn0, ?_⟩
            simp only [go_sem, Int.natCast_nonneg, Nat.reduceEqDiff, Nat.reduceAdd, Nat.reduceSub, Nat.reduceLT, Nat.reduceMul, Nat.reduceBEq, Nat.reduceLeDiff, ↓reduceIte, Int.toNat_natCast, Int.reduceToNat, Int.toNat_zero, Int.toNat_one, not_true_eq_false, false_or, or_self, Nat.reduceGT, Option.isSome_some, Bool.and_self, Nat.zero_add, Nat.mul_one, List.length_map, List.take_length, Int.cast_ofNat_Int, Int.reduceLE, Int.reduceLT, Int.reduceGE, Int.reduceGT, Int.reduceEq, Int.reduceNe, Int.le_refl, Nat.le_refl, Nat.reduceAdd, ne_eq, not_false_eq_true, reduceCtorEq, beq_true, beq_false, BEq.rfl, Bool.not_true, Bool.not_false, decide_true, decide_false, exists_prop, map_at XtorG.av _ _ _ hgx, XtorG.av, XtorG.cs]
            intro v hv'
            have hds := fun T cs => Hp.del_set _ _ T cs hv'.1
            simp only [go_sem, Int.natCast_nonneg, Nat.reduceEqDiff, Nat.reduceAdd, Nat.reduceSub, Nat.reduceLT, Nat.reduceMul, Nat.reduceBEq, Nat.reduceLeDiff, ↓reduceIte, Int.toNat_natCast, Int.reduceToNat, Int.toNat_zero, Int.toNat_one, not_true_eq_false, false_or, or_self, Nat.reduceGT, Option.isSome_some, Bool.and_self, Nat.zero_add, Nat.mul_one, List.length_map, List.take_length, Int.cast_ofNat_Int, Int.reduceLE, Int.reduceLT, Int.reduceGE, Int.reduceGT, Int.reduceEq, Int.reduceNe, Int.le_refl, Nat.le_refl, Nat.reduceAdd, ne_eq, not_false_eq_true, reduceCtorEq, beq_true, beq_false, BEq.rfl, Bool.not_true, Bool.not_false, decide_true, decide_false, exists_prop, hds, wrap_dn _ hxl, hi, map_at ArgG.av _ _ _ hga, ArgG.av, ArgG.cs]
            refine ⟨by omega, ?_⟩
            refine callX_by (awake_calls _ hg) ?_
            rintro r hp5 ⟨rfl, rfl⟩
            simp only [go_sem, Int.natCast_nonneg, Nat.reduceEqDiff, Nat.reduceAdd, Nat.reduceSub, Nat.reduceLT, Nat.reduceMul, Nat.reduceBEq, Nat.reduceLeDiff, ↓reduceIte, Int.toNat_natCast, Int.reduceToNat, Int.toNat_zero, Int.toNat_one, not_true_eq_false, false_or, or_self, Nat.reduceGT, Option.isSome_some, Bool.and_self, Nat.zero_add, Nat.mul_one, List.length_map, List.take_length, Int.cast_ofNat_Int, Int.reduceLE, Int.reduceLT, Int.reduceGE, Int.reduceGT, Int.reduceEq, Int.reduceNe, Int.le_refl, Nat.le_refl, Nat.reduceAdd, ne_eq, not_false_eq_true, reduceCtorEq, beq_true, beq_false, BEq.rfl, Bool.not_true, Bool.not_false, decide_true, decide_false, exists_prop]
            exact ret_same ⟨rfl, rfl⟩
  · have hv : validB l = false := by rw [valid_same, h]
    simp only [go_sem, Int.natCast_nonneg, Nat.reduceEqDiff, Nat.reduceAdd, Nat.reduceSub, Nat.reduceLT, Nat.reduceMul, Nat.reduceBEq, Nat.reduceLeDiff, ↓reduceIte, Int.toNat_natCast, Int.reduceToNat, Int.toNat_zero, Int.toNat_one, not_true_eq_false, false_or, or_self, Nat.reduceGT, Option.isSome_some, Bool.and_self, Nat.zero_add, Nat.mul_one, List.length_map, List.take_length, Int.cast_ofNat_Int, Int.reduceLE, Int.reduceLT, Int.reduceGE, Int.reduceGT, Int.reduceEq, Int.reduceNe, Int.le_refl, Nat.le_refl, Nat.reduceAdd, ne_eq, not_false_eq_true, reduceCtorEq, beq_true, beq_false, BEq.rfl, Bool.not_true, Bool.not_false, decide_true, decide_false, exists_prop, h, posB, posE, resV, resE, hv, Bool.false_eq_true, Bool.false_and]
    refine callX_by (awake_calls _ hg) ?_
    rintro r hp5 ⟨rfl, rfl⟩
    simp only [go_sem, Int.natCast_nonneg, Nat.reduceEqDiff, Nat.reduceAdd, Nat.reduceSub, Nat.reduceLT, Nat.reduceMul, Nat.reduceBEq, Nat.reduceLeDiff, ↓reduceIte, Int.toNat_natCast, Int.reduceToNat, Int.toNat_zero, Int.toNat_one, not_true_eq_false, false_or, or_self, Nat.reduceGT, Option.isSome_some, Bool.and_self, Nat.zero_add, Nat.mul_one, List.length_map, List.take_length, Int.cast_ofNat_Int, Int.reduceLE, Int.reduceLT, Int.reduceGE, Int.reduceGT, Int.reduceEq, Int.reduceNe, Int.le_refl, Nat.le_refl, Nat.reduceAdd, ne_eq, not_false_eq_true, reduceCtorEq, beq_true, beq_false, BEq.rfl, Bool.not_true, Bool.not_false, decide_true, decide_false, exists_prop]
    exact ret_same ⟨rfl, rfl⟩
end Go.Proofs.Ytfdlfcafcjhpmaa
