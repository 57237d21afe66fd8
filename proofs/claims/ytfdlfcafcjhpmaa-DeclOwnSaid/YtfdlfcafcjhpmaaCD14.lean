/- Plain laws: the two readings of declarations agree. -/
import Derived.Test.YtfdlfcafcjhpmaaCD13
set_option linter.unusedSimpArgs false
set_option linter.unusedVariables false
set_option maxRecDepth 20000
namespace Go.Proofs.Ytfdlfcafcjhpmaa
open Go.AL

theorem rest_low (c : UInt8) : restB c = lowB c := by
  have : (c.toNat : Int) < 256 := by have := c.toNat_lt; omega
  simp only [restB, lowB, lowerC]
  by_cases h1 : (97 : Int) ≤ c.toNat <;> by_cases h2 : (c.toNat : Int) ≤ 122 <;> by_cases h3 : (c.toNat : Int) < 48 <;> by_cases h4 : (c.toNat : Int) > 57 <;> simp [h1, h2, h3, h4] <;> omega

theorem all_low (l : List UInt8) : l.all restB = l.all lowB := by
  induction l with
  | nil => rfl
  | cons c l ih => simp only [List.all_cons, rest_low, ih]

theorem xtorName_same (s : List UInt8) : xtorNameB s = rxtorNameB s := by
  cases s with
  | nil => rfl
  | cons c r => simp only [xtorNameB, rxtorNameB, all_low]

/-! ### Reserved words -/
theorem cont_cons (b : UInt8) (l sub : List UInt8) : Lib.contains (b :: l) sub = (sub.isPrefixOf (b :: l) || Lib.contains l sub) := by
  have hg := Lib.index_ge l sub
  unfold Lib.contains
  rw [Lib.index]
  split
  · rename_i h; simp [h]
  · rename_i h
    split
    · rename_i h2; simp at h2; simp [h, h2]
    · rename_i h2
      simp at h2
      have h1 : (0 : Int) ≤ Lib.index l sub + 1 := by omega
      have h3 : (0 : Int) ≤ Lib.index l sub := by omega
      simp [h, h1, h3]
theorem cont_nil (t : List UInt8) : Lib.contains [] (32 :: t) = false := rfl
theorem cont_skip (t T : List UInt8) : ∀ (w : List UInt8), (32 : UInt8) ∉ w → Lib.contains (w ++ T) (32 :: t) = Lib.contains T (32 :: t)
  | [], _ => rfl
  | c :: w, h => by
    have h1 : (32 : UInt8) ≠ c := fun e => h (by simp [e])
    rw [List.cons_append, cont_cons, cont_skip t T w (fun hw => h (by simp [hw]))]
    simp [List.isPrefixOf, h1]
theorem pref_word (T : List UInt8) : ∀ (s w : List UInt8), (32 : UInt8) ∉ s → (32 : UInt8) ∉ w → (s ++ [32]).isPrefixOf (w ++ 32 :: T) = decide (s = w)
  | [], [], _, _ => by simp [List.isPrefixOf]
  | [], c :: w, _, h => by
    have h1 : (32 : UInt8) ≠ c := fun e => h (by simp [e])
    simp [List.isPrefixOf, h1]
  | c :: s, [], h, _ => by
    have h1 : c ≠ 32 := fun e => h (by simp [e])
    simp [List.isPrefixOf, h1]
  | c :: s, e :: w, h, h' => by
    have ih := pref_word T s w (fun x => h (by simp [x])) (fun x => h' (by simp [x]))
    rw [List.cons_append, List.cons_append, List.isPrefixOf, ih]
    by_cases hc : c = e <;> simp [hc]
def tx : List (List UInt8) → List UInt8
  | [] => [32]
  | w :: ws => 32 :: (w ++ tx ws)
theorem tx_head (ws : List (List UInt8)) : ∃ T, tx ws = 32 :: T := by cases ws <;> exact ⟨_, rfl⟩
theorem cont_tx (s : List UInt8) (hs : (32 : UInt8) ∉ s) : ∀ (ws : List (List UInt8)), (∀ w ∈ ws, (32 : UInt8) ∉ w) → Lib.contains (tx ws) (32 :: (s ++ [32])) = ws.any fun w => decide (s = w)
  | [], _ => by
    rw [tx, cont_cons, cont_nil]
    cases s <;> simp [List.isPrefixOf]
  | w :: ws, h => by
    obtain ⟨T, hT⟩ := tx_head ws
    have hw := h w (by simp)
    rw [tx, cont_cons, cont_skip _ _ w hw, cont_tx s hs ws (fun v hv => h v (by simp [hv])), List.any_cons]
    congr 1
    rw [List.isPrefixOf, hT, pref_word T s w hs hw]
    simp
theorem reserved_tx : reserved = tx words := by kernel_rfl
theorem words_ok : ∀ w ∈ words, (32 : UInt8) ∉ w := by decide +kernel
theorem restB_no (c : UInt8) (h : restB c = true) : c ≠ 32 := by rintro rfl; revert h; decide +kernel

theorem name_same (s : List UInt8) : nameB s = rnameB s := by
  cases s with
  | nil => rfl
  | cons c r =>
    simp only [nameB, rnameB, List.all_cons]
    by_cases hall : r.all restB = true
    · by_cases hc : lowerC c = true
      · have hr : restB c = true := by simp only [restB, hc, Bool.true_or]
        have hno : (32 : UInt8) ∉ c :: r := by
          intro hm
          rcases List.mem_cons.1 hm with e | hm
          · exact restB_no c hr e.symm
          · exact restB_no 32 (List.all_eq_true.1 hall 32 hm) rfl
        have hcont : Lib.contains reserved ([32] ++ c :: r ++ [32]) = resB (c :: r) := by
          rw [reserved_tx]
          exact cont_tx (c :: r) hno words words_ok
        rw [hcont, hr, hc, ← all_low, hall]
        simp only [lowerC, Bool.and_eq_true, decide_eq_true_eq] at hc
        simp [hc.1, hc.2]
      · have hc' : lowerC c = false := by simpa using hc
        rw [hc']
        simp only [lowerC, Bool.and_eq_false_iff, decide_eq_false_iff_not] at hc'
        rcases hc' with h | h
        · simp [h]
        · simp [h]
    · have ha : r.all restB = false := by simpa using hall
      rw [← all_low, ha]
      simp

theorem xtor_same (n : Nat) (seen : List (List UInt8)) (x : XtorG) : xtorB n seen x = rxtorB n seen x := by
  simp only [xtorB, rxtorB, xtorName_same]
  cases rxtorNameB x.name <;> cases hasB seen x.name <;> cases decide ((x.args.length : Int) > 6) <;> simp
theorem fits_same (n : Nat) : ∀ (xs : List XtorG) (seen : List (List UInt8)), fitsAll n seen xs = rfitsAll n seen xs
  | [], _ => rfl
  | x :: r, seen => by simp only [fitsAll, rfitsAll, xtor_same, fits_same n r]
theorem has_same (names : List (List UInt8)) (s : List UInt8) : hasB names s = names.any fun e => decide (e = s) := by
  simp only [hasB, eq_comm]
theorem decl_same (names : List (List UInt8)) (d : DeclG) : declB names d = rdeclB names d := by
  simp only [declB, rdeclB, name_same, has_same]
  cases rnameB d.name <;> cases (names.any fun e => decide (e = d.name)) <;> simp
theorem from_same (n : Nat) : ∀ (l : List DeclG) (names seen : List (List UInt8)), validFrom n names seen l = risFrom n names seen l
  | [], _, _ => rfl
  | d :: r, names, seen => by
    simp only [validFrom, risFrom, decl_same, fits_same]
    cases rfitsAll n seen d.xtors with
    | none => rfl
    | some s => simp only [from_same n r]
theorem valid_same (l : List DeclG) : validB l = risB l := by simp only [validB, risB, from_same]

theorem found_zero (o : Option (Nat × Nat)) (h : ∀ p, o = some p → 0 < p.1) : decide (foundT o = 0) = !o.isSome := by
  cases o with
  | none => rfl
  | some p => have := h p rfl; simp [foundT]; omega
theorem findD_pos (name : List UInt8) : ∀ (l : List DeclG) (i : Nat) (p : Nat × Nat), findD name l i = some p → 0 < p.1
  | [], _, _, h => by cases h
  | d :: r, i, p, h => by
    simp only [findD] at h
    split at h
    · simp only [Option.some.injEq] at h; subst h; simp
    · exact findD_pos name r _ p h

theorem declFinds_calls (hd : Value) (l : List DeclG) (name : List UInt8) (hp : Hp) (hg : GOk hp) : ACalls Try.prog 10 [declsAV hd l, .v (.string (bs name))] hp (fun r hp' => r = .v (.bool true) ∧ hp' = hp) := by
  refine acalls_of Try.func10 rfl (by decide +kernel) (awp_sound (mu := []) _ _ _ ?_)
  simp only [go_sem, Int.natCast_nonneg, Nat.reduceEqDiff, Nat.reduceAdd, Nat.reduceSub, Nat.reduceLT, Nat.reduceMul, Nat.reduceBEq, Nat.reduceLeDiff, ↓reduceIte, Int.toNat_natCast, Int.reduceToNat, Int.toNat_zero, Int.toNat_one, not_true_eq_false, false_or, or_self, Nat.reduceGT, Option.isSome_some, Bool.and_self, Nat.zero_add, Nat.mul_one, List.length_map, List.take_length, Int.cast_ofNat_Int, Int.reduceLE, Int.reduceLT, Int.reduceGE, Int.reduceGT, Int.reduceEq, Int.reduceNe, Int.le_refl, Nat.le_refl, Nat.reduceAdd, ne_eq, not_false_eq_true, reduceCtorEq, beq_true, beq_false, BEq.rfl, Bool.not_true, Bool.not_false, decide_true, decide_false, exists_prop]
  refine callX_by (find_calls hd l name _ hg) ?_
  rintro r hp2 ⟨rfl, rfl⟩
  simp only [go_sem, Int.natCast_nonneg, Nat.reduceEqDiff, Nat.reduceAdd, Nat.reduceSub, Nat.reduceLT, Nat.reduceMul, Nat.reduceBEq, Nat.reduceLeDiff, ↓reduceIte, Int.toNat_natCast, Int.reduceToNat, Int.toNat_zero, Int.toNat_one, not_true_eq_false, false_or, or_self, Nat.reduceGT, Option.isSome_some, Bool.and_self, Nat.zero_add, Nat.mul_one, List.length_map, List.take_length, Int.cast_ofNat_Int, Int.reduceLE, Int.reduceLT, Int.reduceGE, Int.reduceGT, Int.reduceEq, Int.reduceNe, Int.le_refl, Nat.le_refl, Nat.reduceAdd, ne_eq, not_false_eq_true, reduceCtorEq, beq_true, beq_false, BEq.rfl, Bool.not_true, Bool.not_false, decide_true, decide_false, exists_prop]
  refine callX_by (ris_calls hd l _) ?_
  rintro r hp3 ⟨rfl, rfl⟩
  simp only [go_sem, Int.natCast_nonneg, Nat.reduceEqDiff, Nat.reduceAdd, Nat.reduceSub, Nat.reduceLT, Nat.reduceMul, Nat.reduceBEq, Nat.reduceLeDiff, ↓reduceIte, Int.toNat_natCast, Int.reduceToNat, Int.toNat_zero, Int.toNat_one, not_true_eq_false, false_or, or_self, Nat.reduceGT, Option.isSome_some, Bool.and_self, Nat.zero_add, Nat.mul_one, List.length_map, List.take_length, Int.cast_ofNat_Int, Int.reduceLE, Int.reduceLT, Int.reduceGE, Int.reduceGT, Int.reduceEq, Int.reduceNe, Int.le_refl, Nat.le_refl, Nat.reduceAdd, ne_eq, not_false_eq_true, reduceCtorEq, beq_true, beq_false, BEq.rfl, Bool.not_true, Bool.not_false, decide_true, decide_false, exists_prop]
  refine brK_mk (fun h => ?_) (fun h => ?_) <;> simp only [go_sem, Int.natCast_nonneg, Nat.reduceEqDiff, Nat.reduceAdd, Nat.reduceSub, Nat.reduceLT, Nat.reduceMul, Nat.reduceBEq, Nat.reduceLeDiff, ↓reduceIte, Int.toNat_natCast, Int.reduceToNat, Int.toNat_zero, Int.toNat_one, not_true_eq_false, false_or, or_self, Nat.reduceGT, Option.isSome_some, Bool.and_self, Nat.zero_add, Nat.mul_one, List.length_map, List.take_length, Int.cast_ofNat_Int, Int.reduceLE, Int.reduceLT, Int.reduceGE, Int.reduceGT, Int.reduceEq, Int.reduceNe, Int.le_refl, Nat.le_refl, Nat.reduceAdd, ne_eq, not_false_eq_true, reduceCtorEq, beq_true, beq_false, BEq.rfl, Bool.not_true, Bool.not_false, decide_true, decide_false, exists_prop, h]
  · have hv : validB l = true := by rw [valid_same, h]
    refine callX_by (rfind_calls hd l name _) ?_
    rintro r hp4 ⟨rfl, rfl⟩
    have hz := found_zero (findD name l 0) (fun p hp => findD_pos name l 0 p hp)
    simp only [go_sem, Int.natCast_nonneg, Nat.reduceEqDiff, Nat.reduceAdd, Nat.reduceSub, Nat.reduceLT, Nat.reduceMul, Nat.reduceBEq, Nat.reduceLeDiff, ↓reduceIte, Int.toNat_natCast, Int.reduceToNat, Int.toNat_zero, Int.toNat_one, not_true_eq_false, false_or, or_self, Nat.reduceGT, Option.isSome_some, Bool.and_self, Nat.zero_add, Nat.mul_one, List.length_map, List.take_length, Int.cast_ofNat_Int, Int.reduceLE, Int.reduceLT, Int.reduceGE, Int.reduceGT, Int.reduceEq, Int.reduceNe, Int.le_refl, Nat.le_refl, Nat.reduceAdd, ne_eq, not_false_eq_true, reduceCtorEq, beq_true, beq_false, BEq.rfl, Bool.not_true, Bool.not_false, decide_true, decide_false, exists_prop, findO, findE, hv, hz]
    cases hf : findD name l 0 with
    | none =>
      simp only [go_sem, Int.natCast_nonneg, Nat.reduceEqDiff, Nat.reduceAdd, Nat.reduceSub, Nat.reduceLT, Nat.reduceMul, Nat.reduceBEq, Nat.reduceLeDiff, ↓reduceIte, Int.toNat_natCast, Int.reduceToNat, Int.toNat_zero, Int.toNat_one, not_true_eq_false, false_or, or_self, Nat.reduceGT, Option.isSome_some, Bool.and_self, Nat.zero_add, Nat.mul_one, List.length_map, List.take_length, Int.cast_ofNat_Int, Int.reduceLE, Int.reduceLT, Int.reduceGE, Int.reduceGT, Int.reduceEq, Int.reduceNe, Int.le_refl, Nat.le_refl, Nat.reduceAdd, ne_eq, not_false_eq_true, reduceCtorEq, beq_true, beq_false, BEq.rfl, Bool.not_true, Bool.not_false, decide_true, decide_false, exists_prop, hf, Option.isSome_none, foundT, foundN, Option.map_none]
      refine callX_by (awake_calls _ hg) ?_
      rintro r hp5 ⟨rfl, rfl⟩
      simp only [go_sem, Int.natCast_nonneg, Nat.reduceEqDiff, Nat.reduceAdd, Nat.reduceSub, Nat.reduceLT, Nat.reduceMul, Nat.reduceBEq, Nat.reduceLeDiff, ↓reduceIte, Int.toNat_natCast, Int.reduceToNat, Int.toNat_zero, Int.toNat_one, not_true_eq_false, false_or, or_self, Nat.reduceGT, Option.isSome_some, Bool.and_self, Nat.zero_add, Nat.mul_one, List.length_map, List.take_length, Int.cast_ofNat_Int, Int.reduceLE, Int.reduceLT, Int.reduceGE, Int.reduceGT, Int.reduceEq, Int.reduceNe, Int.le_refl, Nat.le_refl, Nat.reduceAdd, ne_eq, not_false_eq_true, reduceCtorEq, beq_true, beq_false, BEq.rfl, Bool.not_true, Bool.not_false, decide_true, decide_false, exists_prop]
      exact ret_same ⟨rfl, rfl⟩
    | some p =>
      simp only [go_sem, Int.natCast_nonneg, Nat.reduceEqDiff, Nat.reduceAdd, Nat.reduceSub, Nat.reduceLT, Nat.reduceMul, Nat.reduceBEq, Nat.reduceLeDiff, ↓reduceIte, Int.toNat_natCast, Int.reduceToNat, Int.toNat_zero, Int.toNat_one, not_true_eq_false, false_or, or_self, Nat.reduceGT, Option.isSome_some, Bool.and_self, Nat.zero_add, Nat.mul_one, List.length_map, List.take_length, Int.cast_ofNat_Int, Int.reduceLE, Int.reduceLT, Int.reduceGE, Int.reduceGT, Int.reduceEq, Int.reduceNe, Int.le_refl, Nat.le_refl, Nat.reduceAdd, ne_eq, not_false_eq_true, reduceCtorEq, beq_true, beq_false, BEq.rfl, Bool.not_true, Bool.not_false, decide_true, decide_false, exists_prop, hf]
      refine callX_by (awake_calls _ hg) ?_
      rintro r hp5 ⟨rfl, rfl⟩
      simp only [go_sem, Int.natCast_nonneg, Nat.reduceEqDiff, Nat.reduceAdd, Nat.reduceSub, Nat.reduceLT, Nat.reduceMul, Nat.reduceBEq, Nat.reduceLeDiff, ↓reduceIte, Int.toNat_natCast, Int.reduceToNat, Int.toNat_zero, Int.toNat_one, not_true_eq_false, false_or, or_self, Nat.reduceGT, Option.isSome_some, Bool.and_self, Nat.zero_add, Nat.mul_one, List.length_map, List.take_length, Int.cast_ofNat_Int, Int.reduceLE, Int.reduceLT, Int.reduceGE, Int.reduceGT, Int.reduceEq, Int.reduceNe, Int.le_refl, Nat.le_refl, Nat.reduceAdd, ne_eq, not_false_eq_true, reduceCtorEq, beq_true, beq_false, BEq.rfl, Bool.not_true, Bool.not_false, decide_true, decide_false, exists_prop]
      exact ret_same ⟨rfl, rfl⟩
  · have hv : validB l = false := by rw [valid_same, h]
    simp only [go_sem, Int.natCast_nonneg, Nat.reduceEqDiff, Nat.reduceAdd, Nat.reduceSub, Nat.reduceLT, Nat.reduceMul, Nat.reduceBEq, Nat.reduceLeDiff, ↓reduceIte, Int.toNat_natCast, Int.reduceToNat, Int.toNat_zero, Int.toNat_one, not_true_eq_false, false_or, or_self, Nat.reduceGT, Option.isSome_some, Bool.and_self, Nat.zero_add, Nat.mul_one, List.length_map, List.take_length, Int.cast_ofNat_Int, Int.reduceLE, Int.reduceLT, Int.reduceGE, Int.reduceGT, Int.reduceEq, Int.reduceNe, Int.le_refl, Nat.le_refl, Nat.reduceAdd, ne_eq, not_false_eq_true, reduceCtorEq, beq_true, beq_false, BEq.rfl, Bool.not_true, Bool.not_false, decide_true, decide_false, exists_prop, findO, findE, hv, foundT, foundN, Option.map_none, Bool.false_eq_true]
    refine callX_by (awake_calls _ hg) ?_
    rintro r hp5 ⟨rfl, rfl⟩
    simp only [go_sem, Int.natCast_nonneg, Nat.reduceEqDiff, Nat.reduceAdd, Nat.reduceSub, Nat.reduceLT, Nat.reduceMul, Nat.reduceBEq, Nat.reduceLeDiff, ↓reduceIte, Int.toNat_natCast, Int.reduceToNat, Int.toNat_zero, Int.toNat_one, not_true_eq_false, false_or, or_self, Nat.reduceGT, Option.isSome_some, Bool.and_self, Nat.zero_add, Nat.mul_one, List.length_map, List.take_length, Int.cast_ofNat_Int, Int.reduceLE, Int.reduceLT, Int.reduceGE, Int.reduceGT, Int.reduceEq, Int.reduceNe, Int.le_refl, Nat.le_refl, Nat.reduceAdd, ne_eq, not_false_eq_true, reduceCtorEq, beq_true, beq_false, BEq.rfl, Bool.not_true, Bool.not_false, decide_true, decide_false, exists_prop]
    exact ret_same ⟨rfl, rfl⟩
end Go.Proofs.Ytfdlfcafcjhpmaa
