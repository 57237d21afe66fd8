/- Heaps: Same, the words of two objects. -/
import Derived.Test.YtfdlfcafcjhpmaaCH29
import Derived.Test.YtfdlfcafcjhpmaaCH23
set_option linter.unusedSimpArgs false
set_option linter.unusedVariables false
set_option maxRecDepth 20000
set_option maxHeartbeats 4000000
namespace Go.Proofs.Ytfdlfcafcjhpmaa
open Go.AL

/-! ### The maps -/
def toE : List Int → List Int → List (Value × AV)
  | x :: P, y :: Q => (.int .i64 x, iv y) :: toE P Q
  | _, _ => []
def assoc : List Int → List Int → Int → Option Int
  | x :: P, y :: Q, n => if decide (n = x) = true then some y else assoc P Q n
  | _, _, _ => none
theorem toE_find (n : Int) : ∀ (P Q : List Int), mfind (.int .i64 n) (toE P Q) = (assoc P Q n).map iv
  | [], _ => rfl
  | _ :: _, [] => rfl
  | x :: P, y :: Q => by
    rw [toE, mfind, assoc]
    simp only [keyEq]
    by_cases h : n = x
    · simp [h]
    · simp [h, toE_find n P Q]
theorem toE_key : ∀ (P Q : List Int), ∀ p ∈ toE P Q, keyOk (.i .i64) p.1 = true
  | [], _, p, h => by cases h
  | _ :: _, [], p, h => by cases h
  | x :: P, y :: Q, p, h => by
    rw [toE, List.mem_cons] at h
    rcases h with rfl | h
    · rfl
    · exact toE_key P Q p h
theorem toE_set (n m : Int) : ∀ (P Q : List Int), P.length = Q.length → n ∉ P → mset (.int .i64 n) (iv m) (toE P Q) = toE (P ++ [n]) (Q ++ [m])
  | [], [], _, _ => rfl
  | [], _ :: _, h, _ => by cases h
  | _ :: _, [], h, _ => by cases h
  | x :: P, y :: Q, h, hn => by
    simp only [List.mem_cons, not_or] at hn
    have hk : keyEq (.int .i64 n) (.int .i64 x) = false := by simp [keyEq, hn.1]
    rw [List.cons_append, List.cons_append, toE, toE, mset, if_neg (by rw [hk]; decide), toE_set n m P Q (by simpa using h) hn.2]
theorem assoc_none {n : Int} : ∀ {P : List Int} (Q : List Int), n ∉ P → assoc P Q n = none
  | [], _, _ => rfl
  | _ :: _, [], _ => rfl
  | x :: P, y :: Q, h => by
    simp only [List.mem_cons, not_or] at h
    rw [assoc, if_neg (by simpa using h.1), assoc_none Q h.2]
theorem assoc_at {n : Int} : ∀ {P Q : List Int} {i : Nat}, P.Nodup → P.length = Q.length → P[i]? = some n → assoc P Q n = Q[i]?
  | [], _, _, _, _, h => by simp at h
  | _ :: _, [], _, _, h, _ => by cases h
  | x :: P, y :: Q, i, hd, hl, h => by
    rw [assoc]
    rw [List.nodup_cons] at hd
    cases i with
    | zero =>
      simp only [List.getElem?_cons_zero, Option.some.injEq] at h
      rw [if_pos (by simpa using h.symm)]; rfl
    | succ i =>
      rw [List.getElem?_cons_succ] at h ⊢
      have hne : n ≠ x := by rintro rfl; exact hd.1 (List.mem_of_getElem? h)
      rw [if_neg (by simpa using hne)]
      exact assoc_at hd.2 (by simpa using hl) h
/-- What the maps tell is what the lists tell. -/
theorem pair_maps {P Q : List Int} (hP : P.Nodup) (hQ : Q.Nodup) (h : P.length = Q.length) (n m : Int) :
    decide (placeL P n 0 = placeL Q m 0) = match assoc P Q n, assoc Q P m with
      | none, none => true
      | some u, some v => decide (u = m) && decide (v = n)
      | _, _ => false := by
  by_cases hn : n ∈ P
  · obtain ⟨i, h1, h2⟩ := place_lt hn
    have h3 := place_get h1
    obtain ⟨u, hu⟩ := some_at' Q i (by omega)
    rw [assoc_at hP h h3, hu]
    by_cases hm : m ∈ Q
    · obtain ⟨j, k1, k2⟩ := place_lt hm
      have k3 := place_get k1
      obtain ⟨v, hv⟩ := some_at' P j (by omega)
      rw [assoc_at hQ h.symm k3, hv, h1, k1]
      simp only
      by_cases e : i = j
      · subst e
        rw [hu] at k3; rw [hv] at h3
        rw [Option.some.inj k3, Option.some.inj h3]; simp
      · have hne : u ≠ m := by
          rintro rfl
          exact e ((List.getElem?_inj (by omega) hQ).1 (hu.trans k3.symm))
        simp [hne]; omega
    · rw [assoc_none P hm, h1, placeL_none 0 hm]
      simp
  · rw [assoc_none Q hn, placeL_none 0 hn]
    by_cases hm : m ∈ Q
    · obtain ⟨j, k1, k2⟩ := place_lt hm
      obtain ⟨v, hv⟩ := some_at' P j (by omega)
      rw [assoc_at hQ h.symm (place_get k1), hv, k1]
      simp
    · rw [assoc_none P hm, placeL_none 0 hm]; simp

/-! ### The queue -/
def prAV (x y : Int) : AV := .agg [iv x, iv y]
def prsAV : List Int → List Int → List AV
  | x :: P, y :: Q => prAV x y :: prsAV P Q
  | _, _ => []
theorem prs_len : ∀ {P Q : List Int}, P.length = Q.length → (prsAV P Q).length = P.length
  | [], [], _ => rfl
  | [], _ :: _, h => by cases h
  | _ :: _, [], h => by cases h
  | x :: P, y :: Q, h => by rw [prsAV, List.length_cons, List.length_cons, prs_len (by simpa using h)]
theorem prs_app (n m : Int) : ∀ {P Q : List Int}, P.length = Q.length → prsAV P Q ++ [prAV n m] = prsAV (P ++ [n]) (Q ++ [m])
  | [], [], _ => rfl
  | [], _ :: _, h => by cases h
  | _ :: _, [], h => by cases h
  | x :: P, y :: Q, h => by rw [List.cons_append, List.cons_append, prsAV, prsAV, List.cons_append, prs_app n m (by simpa using h)]
theorem prs_at : ∀ {P Q : List Int} {i : Nat} {x y : Int}, P[i]? = some x → Q[i]? = some y → (prsAV P Q)[i]? = some (prAV x y)
  | [], _, _, _, _, h, _ => by simp at h
  | _ :: _, [], _, _, _, _, h => by simp at h
  | u :: P, v :: Q, i, x, y, h, k => by
    rw [prsAV]
    cases i with
    | zero => simp only [List.getElem?_cons_zero, Option.some.injEq] at h k ⊢; rw [h, k]
    | succ i => rw [List.getElem?_cons_succ] at h k ⊢; exact prs_at h k
theorem prs_ones : ∀ (P Q : List Int), ((prsAV P Q).flatMap AV.cells).all AV.one = true
  | [], _ => rfl
  | _ :: _, [] => rfl
  | x :: P, y :: Q => by rw [prsAV, List.flatMap_cons, List.all_append, prs_ones P Q]; rfl
def QHp (X : Hp) (m1 m2 bq : Nat) (hq : Value) (P Q : List Int) (sp0 : List (TypeId × Nat × Value)) : Hp :=
  (((X.setMp m1 (toE P Q)).setMp m2 (toE Q P)).setBlk bq 115 [.lst 2 hq (prsAV P Q)]).setSp ((117, 2, hq) :: sp0)
def SameR (X : Hp) (m1 m2 bq : Nat) (sp0 : List (TypeId × Nat × Value)) (P Q : List Int) (a b : List WordG) (r : AV) (hp' : Hp) : Prop :=
  r = .v (.bool (runW P Q a b)) ∧ ∃ hq P' Q', hp' = QHp X m1 m2 bq hq P' Q' sp0 ∧ (runW P Q a b = true → P' = foundL P a ∧ Q' = foundL Q b)
structure RunG where
  k : Nat
  hq : Value
  P : List Int
  Q : List Int
structure RunI (P Q : List Int) (a b : List WordG) (x : RunG) : Prop where
  k : x.k ≤ a.length
  nP : x.P.Nodup
  nQ : x.Q.Nodup
  len : x.P.length = x.Q.length
  le : x.P.length ≤ P.length + x.k
  run : runW x.P x.Q (a.drop x.k) (b.drop x.k) = runW P Q a b
  fP : foundL x.P (a.drop x.k) = foundL P a
  fQ : foundL x.Q (b.drop x.k) = foundL Q b
theorem same1_calls {X : Hp} {m1 m2 bq : Nat} {hq : Value} {sp0 : List (TypeId × Nat × Value)} (hm : m1 ≠ m2) (p1 p2 ha hb : Value) {P Q : List Int} (hP : P.Nodup) (hQ : Q.Nodup) (hl : P.length = Q.length) (a b : List WordG) (hal : P.length + a.length ≤ 8796093022000) :
    ACalls Try.prog 64 [wordsAV ha a, wordsAV hb b, .ref p1 [.v (.map (some m1))], .ref p2 [.v (.map (some m2))], .v (.pointer (some ⟨bq, 0, none⟩))] (QHp X m1 m2 bq hq P Q sp0)
      (SameR X m1 m2 bq sp0 P Q a b) := by
  refine acalls_of Try.func64 rfl (by decide +kernel) (awp_sound (mu := [4]) _ _ _ ?_)
  simp only [go_sem, Int.natCast_nonneg, Nat.reduceEqDiff, Nat.reduceAdd, Nat.reduceSub, Nat.reduceLT, Nat.reduceMul, Nat.reduceBEq, Nat.reduceLeDiff, ↓reduceIte, Int.toNat_natCast, Int.reduceToNat, Int.toNat_zero, Int.toNat_one, not_true_eq_false, false_or, or_self, Nat.reduceGT, Option.isSome_some, Bool.and_self, Nat.zero_add, Nat.mul_one, List.length_map, List.take_length, Int.cast_ofNat_Int, Int.reduceLE, Int.reduceLT, Int.reduceGE, Int.reduceGT, Int.reduceEq, Int.reduceNe, Int.le_refl, Nat.le_refl, Nat.reduceAdd, ne_eq, not_false_eq_true, reduceCtorEq, beq_true, beq_false, BEq.rfl, Bool.not_true, Bool.not_false, decide_true, decide_false, exists_prop, wordsAV]
  refine brK_mk (fun h1 => ?_) (fun h1 => ?_) <;> simp only [go_sem, Int.natCast_nonneg, Nat.reduceEqDiff, Nat.reduceAdd, Nat.reduceSub, Nat.reduceLT, Nat.reduceMul, Nat.reduceBEq, Nat.reduceLeDiff, ↓reduceIte, Int.toNat_natCast, Int.reduceToNat, Int.toNat_zero, Int.toNat_one, not_true_eq_false, false_or, or_self, Nat.reduceGT, Option.isSome_some, Bool.and_self, Nat.zero_add, Nat.mul_one, List.length_map, List.take_length, Int.cast_ofNat_Int, Int.reduceLE, Int.reduceLT, Int.reduceGE, Int.reduceGT, Int.reduceEq, Int.reduceNe, Int.le_refl, Nat.le_refl, Nat.reduceAdd, ne_eq, not_false_eq_true, reduceCtorEq, beq_true, beq_false, BEq.rfl, Bool.not_true, Bool.not_false, decide_true, decide_false, exists_prop, h1]
  · have hlen : a.length = b.length := by simp at h1; omega
    have hal' : a.length ≤ maxLen := by simp [maxLen]; omega
    refine aw_loopX 104 (fun x : RunG => [(1, .lst 2 hb (b.map WordG.av)), (2, .ref p1 [.v (.map (some m1))]), (3, .ref p2 [.v (.map (some m2))]), (4, .v (.pointer (some ⟨bq, 0, none⟩))), (20, .lst 2 ha (a.map WordG.av)), (21, .v (.int .i64 a.length)), (22, .v (.int .i64 x.k))])
      (fun x => QHp X m1 m2 bq x.hq x.P x.Q sp0) (RunI P Q a b) (fun x => a.length - x.k) ⟨0, hq, P, Q⟩
      ⟨Nat.zero_le _, hP, hQ, hl, Nat.le_refl _, rfl, rfl, rfl⟩ (le_mkSl rfl (Hp.le_refl _) (by simp [go_sem])) ?_
    rintro ⟨k, hq', A, B⟩ ⟨hk, nA, nB, hAB, hle, hrun, hfA, hfB⟩
    simp only at hk nA nB hAB hle hrun hfA hfB
    refine awp_sound (mu := [4]) _ _ _ ?_
    simp only [go_sem, Int.natCast_nonneg, Nat.reduceEqDiff, Nat.reduceAdd, Nat.reduceSub, Nat.reduceLT, Nat.reduceMul, Nat.reduceBEq, Nat.reduceLeDiff, ↓reduceIte, Int.toNat_natCast, Int.reduceToNat, Int.toNat_zero, Int.toNat_one, not_true_eq_false, false_or, or_self, Nat.reduceGT, Option.isSome_some, Bool.and_self, Nat.zero_add, Nat.mul_one, List.length_map, List.take_length, Int.cast_ofNat_Int, Int.reduceLE, Int.reduceLT, Int.reduceGE, Int.reduceGT, Int.reduceEq, Int.reduceNe, Int.le_refl, Nat.le_refl, Nat.reduceAdd, ne_eq, not_false_eq_true, reduceCtorEq, beq_true, beq_false, BEq.rfl, Bool.not_true, Bool.not_false, decide_true, decide_false, exists_prop]
    refine brK_mk (fun h => ?_) (fun h => ?_) <;> simp only [go_sem, Int.natCast_nonneg, Nat.reduceEqDiff, Nat.reduceAdd, Nat.reduceSub, Nat.reduceLT, Nat.reduceMul, Nat.reduceBEq, Nat.reduceLeDiff, ↓reduceIte, Int.toNat_natCast, Int.reduceToNat, Int.toNat_zero, Int.toNat_one, not_true_eq_false, false_or, or_self, Nat.reduceGT, Option.isSome_some, Bool.and_self, Nat.zero_add, Nat.mul_one, List.length_map, List.take_length, Int.cast_ofNat_Int, Int.reduceLE, Int.reduceLT, Int.reduceGE, Int.reduceGT, Int.reduceEq, Int.reduceNe, Int.le_refl, Nat.le_refl, Nat.reduceAdd, ne_eq, not_false_eq_true, reduceCtorEq, beq_true, beq_false, BEq.rfl, Bool.not_true, Bool.not_false, decide_true, decide_false, exists_prop, h]
    · have hk' : k < a.length := by simpa using h
      obtain ⟨⟨xr, xn⟩, hx⟩ := some_at' a k hk'
      obtain ⟨⟨yr, yn⟩, hy⟩ := some_at' b k (by omega)
      have hwu := upW k _ hk' hal'
      rw [dropAt hx, dropAt hy, runW] at hrun
      rw [dropAt hx, foundL_next] at hfA
      rw [dropAt hy, foundL_next] at hfB
      simp only [go_sem, Int.natCast_nonneg, Nat.reduceEqDiff, Nat.reduceAdd, Nat.reduceSub, Nat.reduceLT, Nat.reduceMul, Nat.reduceBEq, Nat.reduceLeDiff, ↓reduceIte, Int.toNat_natCast, Int.reduceToNat, Int.toNat_zero, Int.toNat_one, not_true_eq_false, false_or, or_self, Nat.reduceGT, Option.isSome_some, Bool.and_self, Nat.zero_add, Nat.mul_one, List.length_map, List.take_length, Int.cast_ofNat_Int, Int.reduceLE, Int.reduceLT, Int.reduceGE, Int.reduceGT, Int.reduceEq, Int.reduceNe, Int.le_refl, Nat.le_refl, Nat.reduceAdd, ne_eq, not_false_eq_true, reduceCtorEq, beq_true, beq_false, BEq.rfl, Bool.not_true, Bool.not_false, decide_true, decide_false, exists_prop, map_at' WordG.av _ _ _ hx, map_at' WordG.av _ _ _ hy, WordG.av, WordG.cs]
      cases xr <;> cases yr
      · have e0 : pairW A B ⟨false, xn⟩ ⟨false, yn⟩ = decide (xn = yn) := by simp [pairW]
        intro v9 hv9
        have hd9 := fun T cs => Hp.del_set _ _ T cs hv9.1
        simp only [go_sem, Int.natCast_nonneg, Nat.reduceEqDiff, Nat.reduceAdd, Nat.reduceSub, Nat.reduceLT, Nat.reduceMul, Nat.reduceBEq, Nat.reduceLeDiff, ↓reduceIte, Int.toNat_natCast, Int.reduceToNat, Int.toNat_zero, Int.toNat_one, not_true_eq_false, false_or, or_self, Nat.reduceGT, Option.isSome_some, Bool.and_self, Nat.zero_add, Nat.mul_one, List.length_map, List.take_length, Int.cast_ofNat_Int, Int.reduceLE, Int.reduceLT, Int.reduceGE, Int.reduceGT, Int.reduceEq, Int.reduceNe, Int.le_refl, Nat.le_refl, Nat.reduceAdd, ne_eq, not_false_eq_true, reduceCtorEq, beq_true, beq_false, BEq.rfl, Bool.not_true, Bool.not_false, decide_true, decide_false, exists_prop, hd9]
        intro v10 hv10
        have hd10 := fun T cs => Hp.del_set _ _ T cs hv10.1
        refine brK_mk (fun h2 => ?_) (fun h2 => ?_) <;> simp only [go_sem, Int.natCast_nonneg, Nat.reduceEqDiff, Nat.reduceAdd, Nat.reduceSub, Nat.reduceLT, Nat.reduceMul, Nat.reduceBEq, Nat.reduceLeDiff, ↓reduceIte, Int.toNat_natCast, Int.reduceToNat, Int.toNat_zero, Int.toNat_one, not_true_eq_false, false_or, or_self, Nat.reduceGT, Option.isSome_some, Bool.and_self, Nat.zero_add, Nat.mul_one, List.length_map, List.take_length, Int.cast_ofNat_Int, Int.reduceLE, Int.reduceLT, Int.reduceGE, Int.reduceGT, Int.reduceEq, Int.reduceNe, Int.le_refl, Nat.le_refl, Nat.reduceAdd, ne_eq, not_false_eq_true, reduceCtorEq, beq_true, beq_false, BEq.rfl, Bool.not_true, Bool.not_false, decide_true, decide_false, exists_prop, h2, hwu, hd10]
        · rw [h2] at e0
          refine ⟨⟨k + 1, hq', A, B⟩, by simp only; omega, ⟨by simp only; omega, nA, nB, hAB, by simp only; omega, by rw [← hrun, e0]; rfl, hfA, hfB⟩, le_mkSl rfl (Hp.le_refl _) (by simp [go_sem, hwu])⟩
        · rw [h2] at e0
          refine ret_same ⟨by rw [← hrun, e0]; rfl, hq', A, B, rfl, fun e => ?_⟩
          rw [← hrun, e0] at e; cases e
      · have e0 : pairW A B ⟨false, xn⟩ ⟨true, yn⟩ = false := by simp [pairW]
        intro v9 hv9
        have hd9 := fun T cs => Hp.del_set _ _ T cs hv9.1
        simp only [go_sem, Int.natCast_nonneg, Nat.reduceEqDiff, Nat.reduceAdd, Nat.reduceSub, Nat.reduceLT, Nat.reduceMul, Nat.reduceBEq, Nat.reduceLeDiff, ↓reduceIte, Int.toNat_natCast, Int.reduceToNat, Int.toNat_zero, Int.toNat_one, not_true_eq_false, false_or, or_self, Nat.reduceGT, Option.isSome_some, Bool.and_self, Nat.zero_add, Nat.mul_one, List.length_map, List.take_length, Int.cast_ofNat_Int, Int.reduceLE, Int.reduceLT, Int.reduceGE, Int.reduceGT, Int.reduceEq, Int.reduceNe, Int.le_refl, Nat.le_refl, Nat.reduceAdd, ne_eq, not_false_eq_true, reduceCtorEq, beq_true, beq_false, BEq.rfl, Bool.not_true, Bool.not_false, decide_true, decide_false, exists_prop, hd9]
        intro v10 hv10
        have hd10 := fun T cs => Hp.del_set _ _ T cs hv10.1
        simp only [go_sem, Int.natCast_nonneg, Nat.reduceEqDiff, Nat.reduceAdd, Nat.reduceSub, Nat.reduceLT, Nat.reduceMul, Nat.reduceBEq, Nat.reduceLeDiff, ↓reduceIte, Int.toNat_natCast, Int.reduceToNat, Int.toNat_zero, Int.toNat_one, not_true_eq_false, false_or, or_self, Nat.reduceGT, Option.isSome_some, Bool.and_self, Nat.zero_add, Nat.mul_one, List.length_map, List.take_length, Int.cast_ofNat_Int, Int.reduceLE, Int.reduceLT, Int.reduceGE, Int.reduceGT, Int.reduceEq, Int.reduceNe, Int.le_refl, Nat.le_refl, Nat.reduceAdd, ne_eq, not_false_eq_true, reduceCtorEq, beq_true, beq_false, BEq.rfl, Bool.not_true, Bool.not_false, decide_true, decide_false, exists_prop, hd10]
        refine ret_same ⟨by rw [← hrun, e0]; rfl, hq', A, B, rfl, fun e => ?_⟩
        rw [← hrun, e0] at e; cases e
      · have e0 : pairW A B ⟨true, xn⟩ ⟨false, yn⟩ = false := by simp [pairW]
        intro v9 hv9
        have hd9 := fun T cs => Hp.del_set _ _ T cs hv9.1
        simp only [go_sem, Int.natCast_nonneg, Nat.reduceEqDiff, Nat.reduceAdd, Nat.reduceSub, Nat.reduceLT, Nat.reduceMul, Nat.reduceBEq, Nat.reduceLeDiff, ↓reduceIte, Int.toNat_natCast, Int.reduceToNat, Int.toNat_zero, Int.toNat_one, not_true_eq_false, false_or, or_self, Nat.reduceGT, Option.isSome_some, Bool.and_self, Nat.zero_add, Nat.mul_one, List.length_map, List.take_length, Int.cast_ofNat_Int, Int.reduceLE, Int.reduceLT, Int.reduceGE, Int.reduceGT, Int.reduceEq, Int.reduceNe, Int.le_refl, Nat.le_refl, Nat.reduceAdd, ne_eq, not_false_eq_true, reduceCtorEq, beq_true, beq_false, BEq.rfl, Bool.not_true, Bool.not_false, decide_true, decide_false, exists_prop, hd9]
        intro v10 hv10
        have hd10 := fun T cs => Hp.del_set _ _ T cs hv10.1
        simp only [go_sem, Int.natCast_nonneg, Nat.reduceEqDiff, Nat.reduceAdd, Nat.reduceSub, Nat.reduceLT, Nat.reduceMul, Nat.reduceBEq, Nat.reduceLeDiff, ↓reduceIte, Int.toNat_natCast, Int.reduceToNat, Int.toNat_zero, Int.toNat_one, not_true_eq_false, false_or, or_self, Nat.reduceGT, Option.isSome_some, Bool.and_self, Nat.zero_add, Nat.mul_one, List.length_map, List.take_length, Int.cast_ofNat_Int, Int.reduceLE, Int.reduceLT, Int.reduceGE, Int.reduceGT, Int.reduceEq, Int.reduceNe, Int.le_refl, Nat.le_refl, Nat.reduceAdd, ne_eq, not_false_eq_true, reduceCtorEq, beq_true, beq_false, BEq.rfl, Bool.not_true, Bool.not_false, decide_true, decide_false, exists_prop, hd10]
        refine ret_same ⟨by rw [← hrun, e0]; rfl, hq', A, B, rfl, fun e => ?_⟩
        rw [← hrun, e0] at e; cases e
      · have e0 : pairW A B ⟨true, xn⟩ ⟨true, yn⟩ = decide (placeL A xn 0 = placeL B yn 0) := by simp [pairW]
        rw [pair_maps nA nB hAB] at e0
        have kA := toE_key A B
        have kB := toE_key B A
        intro v9 hv9
        have hd9 := fun T cs => Hp.del_set _ _ T cs hv9.1
        simp only [go_sem, Int.natCast_nonneg, Nat.reduceEqDiff, Nat.reduceAdd, Nat.reduceSub, Nat.reduceLT, Nat.reduceMul, Nat.reduceBEq, Nat.reduceLeDiff, ↓reduceIte, Int.toNat_natCast, Int.reduceToNat, Int.toNat_zero, Int.toNat_one, not_true_eq_false, false_or, or_self, Nat.reduceGT, Option.isSome_some, Bool.and_self, Nat.zero_add, Nat.mul_one, List.length_map, List.take_length, Int.cast_ofNat_Int, Int.reduceLE, Int.reduceLT, Int.reduceGE, Int.reduceGT, Int.reduceEq, Int.reduceNe, Int.le_refl, Nat.le_refl, Nat.reduceAdd, ne_eq, not_false_eq_true, reduceCtorEq, beq_true, beq_false, BEq.rfl, Bool.not_true, Bool.not_false, decide_true, decide_false, exists_prop, hd9]
        intro v10 hv10
        have hd10 := fun T cs => Hp.del_set _ _ T cs hv10.1
        have hmp1 : (QHp X m1 m2 bq hq' A B sp0).mp m1 = some (toE A B) := by simp [QHp, Hp.setBlk, Hp.setSp, Hp.setMp, hm]
        have hmp2 : (QHp X m1 m2 bq hq' A B sp0).mp m2 = some (toE B A) := by simp [QHp, Hp.setBlk, Hp.setSp, Hp.setMp]
        have fA := toE_find xn A B
        have fB := toE_find yn B A
        cases hA : assoc A B xn with
        | none =>
          rw [hA, Option.map_none] at fA
          cases hB : assoc B A yn with
          | none =>
            rw [hB, Option.map_none] at fB
            rw [hA, hB] at e0
            simp only [go_sem, Int.natCast_nonneg, Nat.reduceEqDiff, Nat.reduceAdd, Nat.reduceSub, Nat.reduceLT, Nat.reduceMul, Nat.reduceBEq, Nat.reduceLeDiff, ↓reduceIte, Int.toNat_natCast, Int.reduceToNat, Int.toNat_zero, Int.toNat_one, not_true_eq_false, false_or, or_self, Nat.reduceGT, Option.isSome_some, Bool.and_self, Nat.zero_add, Nat.mul_one, List.length_map, List.take_length, Int.cast_ofNat_Int, Int.reduceLE, Int.reduceLT, Int.reduceGE, Int.reduceGT, Int.reduceEq, Int.reduceNe, Int.le_refl, Nat.le_refl, Nat.reduceAdd, ne_eq, not_false_eq_true, reduceCtorEq, beq_true, beq_false, BEq.rfl, Bool.not_true, Bool.not_false, decide_true, decide_false, exists_prop, hd10, hmp1, hmp2, fA, fB, Option.isSome_none, Option.isSome_some, Option.getD_none, Option.getD_some]
            refine ⟨kA, kB, ?_⟩
            have qblk : (QHp X m1 m2 bq hq' A B sp0).blk bq = some (115, [.lst 2 hq' (prsAV A B)]) := by simp [QHp, Hp.setBlk, Hp.setSp, Hp.setMp]
            have nA' : xn ∉ A := by
              intro hc
              obtain ⟨i, hi⟩ := List.getElem?_of_mem hc
              rw [assoc_at nA hAB hi] at hA
              have := (List.getElem?_eq_some_iff.1 hi).1
              rw [List.getElem?_eq_none_iff] at hA; omega
            have nB' : yn ∉ B := by
              intro hc
              obtain ⟨i, hi⟩ := List.getElem?_of_mem hc
              rw [assoc_at nB hAB.symm hi] at hB
              have := (List.getElem?_eq_some_iff.1 hi).1
              rw [List.getElem?_eq_none_iff] at hB; omega
            have sA := toE_set xn yn A B hAB nA'
            have sB := toE_set yn xn B A hAB.symm nB'
            simp only [iv] at sA sB
            refine draw_by (mu := [4]) (fun _ => True) (.take 0 (.take 1 (.take 2 (.take 3 (.take 4 (.take 5 (.take 6 (.take 7 (.take 8 (.take 9 (.br 10 (.br 11 (.done) (.stop)) (.stop)))))))))))) (by decide +kernel) trivial (by decide +kernel) (by decide +kernel) ?_
            simp only [go_sem, Int.natCast_nonneg, Nat.reduceEqDiff, Nat.reduceAdd, Nat.reduceSub, Nat.reduceLT, Nat.reduceMul, Nat.reduceBEq, Nat.reduceLeDiff, ↓reduceIte, Int.toNat_natCast, Int.reduceToNat, Int.toNat_zero, Int.toNat_one, not_true_eq_false, false_or, or_self, Nat.reduceGT, Option.isSome_some, Bool.and_self, Nat.zero_add, Nat.mul_one, List.length_map, List.take_length, Int.cast_ofNat_Int, Int.reduceLE, Int.reduceLT, Int.reduceGE, Int.reduceGT, Int.reduceEq, Int.reduceNe, Int.le_refl, Nat.le_refl, Nat.reduceAdd, ne_eq, not_false_eq_true, reduceCtorEq, beq_true, beq_false, BEq.rfl, Bool.not_true, Bool.not_false, decide_true, decide_false, exists_prop, hmp1, hmp2, hm, Ne.symm hm, sA, sB, qblk]
            refine ⟨kA, kB, rfl, by simp, fun hd => ?_⟩
            refine append_by (a := .lst 2 hq' (prsAV A B)) (b := .lst 2 hd [prAV xn yn]) (l1 := [(117, 2, hd)]) (l2 := sp0) (h := hq') (h2 := hd) Try.k115 Try.s117 Try.y117 Try.z117 rfl (by decide)
              (by simp [go_sem]) (Cast.refl _) (by simp [go_sem, prAV, iv]) (Cast.refl _) (by simp [go_sem, QHp]) (by simp [go_sem, prAV, iv]) (by rw [prs_len hAB]; simp [maxLen]; omega) (by rw [prs_len hAB]; simp; omega) (by simp [go_sem]) (fun h' => ?_)
            simp only [go_sem, Int.natCast_nonneg, Nat.reduceEqDiff, Nat.reduceAdd, Nat.reduceSub, Nat.reduceLT, Nat.reduceMul, Nat.reduceBEq, Nat.reduceLeDiff, ↓reduceIte, Int.toNat_natCast, Int.reduceToNat, Int.toNat_zero, Int.toNat_one, not_true_eq_false, false_or, or_self, Nat.reduceGT, Option.isSome_some, Bool.and_self, Nat.zero_add, Nat.mul_one, List.length_map, List.take_length, Int.cast_ofNat_Int, Int.reduceLE, Int.reduceLT, Int.reduceGE, Int.reduceGT, Int.reduceEq, Int.reduceNe, Int.le_refl, Nat.le_refl, Nat.reduceAdd, ne_eq, not_false_eq_true, reduceCtorEq, beq_true, beq_false, BEq.rfl, Bool.not_true, Bool.not_false, decide_true, decide_false, exists_prop, hwu, prs_len hAB, qblk]
            rw [prs_app xn yn hAB]
            have cA : A.contains xn = false := by simpa using nA'
            have cB : B.contains yn = false := by simpa using nB'
            have eA : nextL A ⟨true, xn⟩ = A ++ [xn] := by simp [nextL, meet, cA, nA']
            have eB : nextL B ⟨true, yn⟩ = B ++ [yn] := by simp [nextL, meet, cB, nB']
            rw [eA, eB] at hrun
            rw [eA] at hfA
            rw [eB] at hfB
            refine ⟨⟨k + 1, h', A ++ [xn], B ++ [yn]⟩, by simp only; omega, ⟨by simp only; omega, ?_, ?_, by simp only [List.length_append, List.length_singleton]; omega, by simp only [List.length_append, List.length_singleton]; omega, by rw [← hrun, e0]; rfl, hfA, hfB⟩, le_mkSl rfl ?_ (by simp [go_sem, hwu])⟩
            · simp only; rw [List.nodup_append]; exact ⟨nA, by simp, fun z hz u hu => by rw [List.mem_singleton] at hu; intro e; exact nA' (by rw [← hu, ← e]; exact hz)⟩
            · simp only; rw [List.nodup_append]; exact ⟨nB, by simp, fun z hz u hu => by rw [List.mem_singleton] at hu; intro e; exact nB' (by rw [← hu, ← e]; exact hz)⟩
            · simp only [go_sem, Int.natCast_nonneg, Nat.reduceEqDiff, Nat.reduceAdd, Nat.reduceSub, Nat.reduceLT, Nat.reduceMul, Nat.reduceBEq, Nat.reduceLeDiff, ↓reduceIte, Int.toNat_natCast, Int.reduceToNat, Int.toNat_zero, Int.toNat_one, not_true_eq_false, false_or, or_self, Nat.reduceGT, Option.isSome_some, Bool.and_self, Nat.zero_add, Nat.mul_one, List.length_map, List.take_length, Int.cast_ofNat_Int, Int.reduceLE, Int.reduceLT, Int.reduceGE, Int.reduceGT, Int.reduceEq, Int.reduceNe, Int.le_refl, Nat.le_refl, Nat.reduceAdd, ne_eq, not_false_eq_true, reduceCtorEq, beq_true, beq_false, BEq.rfl, Bool.not_true, Bool.not_false, decide_true, decide_false, exists_prop]
              refine ⟨fun i x hi => ?_, fun i x hi => ?_, ?_, fun _ h => h⟩
              · by_cases e1 : i = bq
                · subst e1; simpa [QHp, Hp.setBlk, Hp.setSp, Hp.setMp] using hi
                · simpa [QHp, Hp.setBlk, Hp.setSp, Hp.setMp, e1] using hi
              · by_cases e1 : i = m1
                · subst e1; simpa [QHp, Hp.setBlk, Hp.setSp, Hp.setMp, hm] using hi
                · by_cases e2 : i = m2
                  · subst e2; simpa [QHp, Hp.setBlk, Hp.setSp, Hp.setMp, e1] using hi
                  · simpa [QHp, Hp.setBlk, Hp.setSp, Hp.setMp, e1, e2] using hi
              · exact List.sublist_cons_self _ _
          | some v =>
            rw [hB, Option.map_some] at fB
            rw [hA, hB] at e0
            simp only [go_sem, Int.natCast_nonneg, Nat.reduceEqDiff, Nat.reduceAdd, Nat.reduceSub, Nat.reduceLT, Nat.reduceMul, Nat.reduceBEq, Nat.reduceLeDiff, ↓reduceIte, Int.toNat_natCast, Int.reduceToNat, Int.toNat_zero, Int.toNat_one, not_true_eq_false, false_or, or_self, Nat.reduceGT, Option.isSome_some, Bool.and_self, Nat.zero_add, Nat.mul_one, List.length_map, List.take_length, Int.cast_ofNat_Int, Int.reduceLE, Int.reduceLT, Int.reduceGE, Int.reduceGT, Int.reduceEq, Int.reduceNe, Int.le_refl, Nat.le_refl, Nat.reduceAdd, ne_eq, not_false_eq_true, reduceCtorEq, beq_true, beq_false, BEq.rfl, Bool.not_true, Bool.not_false, decide_true, decide_false, exists_prop, hd10, hmp1, hmp2, fA, fB, Option.isSome_none, Option.isSome_some, Option.getD_none, Option.getD_some]
            refine ⟨kA, kB, ?_⟩
            refine ret_same ⟨by rw [← hrun, e0]; rfl, hq', A, B, rfl, fun e => ?_⟩
            rw [← hrun, e0] at e; cases e
        | some u =>
          rw [hA, Option.map_some] at fA
          cases hB : assoc B A yn with
          | none =>
            rw [hB, Option.map_none] at fB
            rw [hA, hB] at e0
            simp only [go_sem, Int.natCast_nonneg, Nat.reduceEqDiff, Nat.reduceAdd, Nat.reduceSub, Nat.reduceLT, Nat.reduceMul, Nat.reduceBEq, Nat.reduceLeDiff, ↓reduceIte, Int.toNat_natCast, Int.reduceToNat, Int.toNat_zero, Int.toNat_one, not_true_eq_false, false_or, or_self, Nat.reduceGT, Option.isSome_some, Bool.and_self, Nat.zero_add, Nat.mul_one, List.length_map, List.take_length, Int.cast_ofNat_Int, Int.reduceLE, Int.reduceLT, Int.reduceGE, Int.reduceGT, Int.reduceEq, Int.reduceNe, Int.le_refl, Nat.le_refl, Nat.reduceAdd, ne_eq, not_false_eq_true, reduceCtorEq, beq_true, beq_false, BEq.rfl, Bool.not_true, Bool.not_false, decide_true, decide_false, exists_prop, hd10, hmp1, hmp2, fA, fB, Option.isSome_none, Option.isSome_some, Option.getD_none, Option.getD_some]
            refine ⟨kA, kB, ?_⟩
            refine ret_same ⟨by rw [← hrun, e0]; rfl, hq', A, B, rfl, fun e => ?_⟩
            rw [← hrun, e0] at e; cases e
          | some v =>
            rw [hB, Option.map_some] at fB
            rw [hA, hB] at e0
            simp only [go_sem, Int.natCast_nonneg, Nat.reduceEqDiff, Nat.reduceAdd, Nat.reduceSub, Nat.reduceLT, Nat.reduceMul, Nat.reduceBEq, Nat.reduceLeDiff, ↓reduceIte, Int.toNat_natCast, Int.reduceToNat, Int.toNat_zero, Int.toNat_one, not_true_eq_false, false_or, or_self, Nat.reduceGT, Option.isSome_some, Bool.and_self, Nat.zero_add, Nat.mul_one, List.length_map, List.take_length, Int.cast_ofNat_Int, Int.reduceLE, Int.reduceLT, Int.reduceGE, Int.reduceGT, Int.reduceEq, Int.reduceNe, Int.le_refl, Nat.le_refl, Nat.reduceAdd, ne_eq, not_false_eq_true, reduceCtorEq, beq_true, beq_false, BEq.rfl, Bool.not_true, Bool.not_false, decide_true, decide_false, exists_prop, hd10, hmp1, hmp2, fA, fB, Option.isSome_none, Option.isSome_some, Option.getD_none, Option.getD_some, iv]
            refine ⟨kA, kB, ?_⟩
            refine brK_mk (fun h3 => ?_) (fun h3 => ?_) <;> simp only [go_sem, Int.natCast_nonneg, Nat.reduceEqDiff, Nat.reduceAdd, Nat.reduceSub, Nat.reduceLT, Nat.reduceMul, Nat.reduceBEq, Nat.reduceLeDiff, ↓reduceIte, Int.toNat_natCast, Int.reduceToNat, Int.toNat_zero, Int.toNat_one, not_true_eq_false, false_or, or_self, Nat.reduceGT, Option.isSome_some, Bool.and_self, Nat.zero_add, Nat.mul_one, List.length_map, List.take_length, Int.cast_ofNat_Int, Int.reduceLE, Int.reduceLT, Int.reduceGE, Int.reduceGT, Int.reduceEq, Int.reduceNe, Int.le_refl, Nat.le_refl, Nat.reduceAdd, ne_eq, not_false_eq_true, reduceCtorEq, beq_true, beq_false, BEq.rfl, Bool.not_true, Bool.not_false, decide_true, decide_false, exists_prop, h3]
            · refine brK_mk (fun h4 => ?_) (fun h4 => ?_) <;> simp only [go_sem, Int.natCast_nonneg, Nat.reduceEqDiff, Nat.reduceAdd, Nat.reduceSub, Nat.reduceLT, Nat.reduceMul, Nat.reduceBEq, Nat.reduceLeDiff, ↓reduceIte, Int.toNat_natCast, Int.reduceToNat, Int.toNat_zero, Int.toNat_one, not_true_eq_false, false_or, or_self, Nat.reduceGT, Option.isSome_some, Bool.and_self, Nat.zero_add, Nat.mul_one, List.length_map, List.take_length, Int.cast_ofNat_Int, Int.reduceLE, Int.reduceLT, Int.reduceGE, Int.reduceGT, Int.reduceEq, Int.reduceNe, Int.le_refl, Nat.le_refl, Nat.reduceAdd, ne_eq, not_false_eq_true, reduceCtorEq, beq_true, beq_false, BEq.rfl, Bool.not_true, Bool.not_false, decide_true, decide_false, exists_prop, h4, hwu]
              · simp only [h3, h4] at e0
                have mA : A.contains xn = true := by
                  cases hc : A.contains xn with
                  | true => rfl
                  | false => rw [assoc_none B (by simpa using hc)] at hA; cases hA
                have mB : B.contains yn = true := by
                  cases hc : B.contains yn with
                  | true => rfl
                  | false => rw [assoc_none A (by simpa using hc)] at hB; cases hB
                have eA : nextL A ⟨true, xn⟩ = A := by simp only [nextL, meet, mA, if_true]
                have eB : nextL B ⟨true, yn⟩ = B := by simp only [nextL, meet, mB, if_true]
                rw [eA, eB] at hrun
                rw [eA] at hfA
                rw [eB] at hfB
                refine ⟨⟨k + 1, hq', A, B⟩, by simp only; omega, ⟨by simp only; omega, nA, nB, hAB, by simp only; omega, by rw [← hrun, e0]; rfl, hfA, hfB⟩, le_mkSl rfl (Hp.le_refl _) (by simp [go_sem, hwu])⟩
              · simp only [h3, h4, Bool.and_false] at e0
                refine ret_same ⟨by rw [← hrun, e0]; rfl, hq', A, B, rfl, fun e => ?_⟩
                rw [← hrun, e0] at e; cases e
            · simp only [h3, Bool.false_and] at e0
              refine ret_same ⟨by rw [← hrun, e0]; rfl, hq', A, B, rfl, fun e => ?_⟩
              rw [← hrun, e0] at e; cases e
    · have e : a.length ≤ k := by simp at h; omega
      rw [List.drop_of_length_le e, List.drop_of_length_le (hlen ▸ e)] at hrun
      rw [List.drop_of_length_le e] at hfA
      rw [List.drop_of_length_le (hlen ▸ e)] at hfB
      exact ret_same ⟨by rw [← hrun]; rfl, hq', A, B, rfl, fun _ => ⟨hfA, hfB⟩⟩
  · have hlen : a.length ≠ b.length := by simp at h1; omega
    have hr : runW P Q a b = false := by
      have := runW_eq a b P Q [] [] hl
      rw [sameL_len _ _ _ hlen] at this; exact this.symm
    exact ret_same ⟨by rw [hr], hq, P, Q, rfl, fun e => by rw [hr] at e; cases e⟩
end Go.Proofs.Ytfdlfcafcjhpmaa
/- Heaps: Same. -/
set_option linter.unusedSimpArgs false
set_option linter.unusedVariables false
set_option maxRecDepth 20000
set_option maxHeartbeats 4000000
namespace Go.Proofs.Ytfdlfcafcjhpmaa
open Go.AL

theorem acalls_ok {P : Program} {f : FuncId} {args : List AV} {hp hp' : Hp} {R : AV → Hp → Prop} (h : ACalls P f args hp' R) (k : ∀ base m w, HpOk base hp m w → HpOk base hp' m w) : ACalls P f args hp R :=
  ⟨h.1, fun F w ⟨hlo, m, hle, hhp, ho⟩ => h.2 F w ⟨hlo, m, hle, k _ _ _ hhp, ho⟩⟩
def SameRes (G : List ObjG) (a : List WordG) (H : List ObjG) (b : List WordG) : AV := if (validL (spOf G).s a && validL (spOf H).s b) = true then .tup [.v (.bool (isoG G a H b)), iv 0] else .tup [.v (.bool false), iv 171]
structure SmG where
  i : Nat
  hq : Value
  P : List Int
  Q : List Int
theorem qhp_le {hp : Hp} {m1 m2 bq : Nat} (h1 : hp.mp m1 = none) (h2 : hp.mp m2 = none) (h3 : hp.blk bq = none) (hq : Value) (P Q : List Int) : hp.le (QHp hp m1 m2 bq hq P Q hp.sp) := by
  refine ⟨fun i x hi => ?_, fun i x hi => ?_, List.sublist_cons_self _ _, fun _ h => h⟩
  · have e : i ≠ bq := by rintro rfl; rw [h3] at hi; cases hi
    simpa [QHp, Hp.setBlk, Hp.setSp, Hp.setMp, e] using hi
  · have e1 : i ≠ m1 := by rintro rfl; rw [h1] at hi; cases hi
    have e2 : i ≠ m2 := by rintro rfl; rw [h2] at hi; cases hi
    simpa [QHp, Hp.setBlk, Hp.setSp, Hp.setMp, e1, e2] using hi
theorem qhp_blk {hp : Hp} {m1 m2 bq i : Nat} (h : i ≠ bq) (hq : Value) (P Q : List Int) (l : List (TypeId × Nat × Value)) : (QHp hp m1 m2 bq hq P Q l).blk i = hp.blk i := by
  simp [QHp, Hp.setBlk, Hp.setSp, Hp.setMp, h]
theorem qhp_q {hp : Hp} {m1 m2 bq : Nat} (hq : Value) (P Q : List Int) (l : List (TypeId × Nat × Value)) : (QHp hp m1 m2 bq hq P Q l).blk bq = some (115, [.lst 2 hq (prsAV P Q)]) := by
  simp [QHp, Hp.setBlk, Hp.setSp, Hp.setMp]
theorem del_one {Y : Hp} {a b : Nat} (h : Y.blk a = none) (n : a ≠ b) (T T2 : TypeId) (c c2 : List AV) : ((Y.setBlk a T c).setBlk b T2 c2).delBlk a = Y.setBlk b T2 c2 := by
  cases Y with | mk blk mp sp gl =>
  simp only [Hp.setBlk, Hp.delBlk, Hp.mk.injEq, and_true, true_and]
  funext i
  by_cases hi : i = a
  · subst hi; simp only at h; simp [n, h]
  · simp [hi]
theorem same_calls {hp : Hp} {h1 h2 : Nat} {s1 s2 : Int} {c1 z1 o1 c2 z2 o2 : Value} {G H : List ObjG} (blk1 : hp.blk h1 = some (105, HeapV s1 c1 z1 o1 (spOf G))) (blk2 : hp.blk h2 = some (105, HeapV s2 c2 z2 o2 (spOf H)))
    (wf1 : Wf G) (wf2 : Wf H) (N1 : endO G ≤ 2097152) (N2 : endO H ≤ 2097152) (ha hb : Value) (a b : List WordG) (hal : a.length ≤ 8796093022000) (hbl : b.length ≤ 8796093022000) :
    ACalls Try.prog 26 [hptrAV h1, wordsAV ha a, hptrAV h2, wordsAV hb b] hp (fun r hp' => r = SameRes G a H b ∧ hp' = hp) := by
  have hGl := len_endO G
  have hHl := len_endO H
  refine acalls_of Try.func26 rfl (by decide +kernel) (awp_sound (mu := [12]) _ _ _ ?_)
  simp only [go_sem, Int.natCast_nonneg, Nat.reduceEqDiff, Nat.reduceAdd, Nat.reduceSub, Nat.reduceLT, Nat.reduceMul, Nat.reduceBEq, Nat.reduceLeDiff, ↓reduceIte, Int.toNat_natCast, Int.reduceToNat, Int.toNat_zero, Int.toNat_one, not_true_eq_false, false_or, or_self, Nat.reduceGT, Option.isSome_some, Bool.and_self, Nat.zero_add, Nat.mul_one, List.length_map, List.take_length, Int.cast_ofNat_Int, Int.reduceLE, Int.reduceLT, Int.reduceGE, Int.reduceGT, Int.reduceEq, Int.reduceNe, Int.le_refl, Nat.le_refl, Nat.reduceAdd, ne_eq, not_false_eq_true, reduceCtorEq, beq_true, beq_false, BEq.rfl, Bool.not_true, Bool.not_false, decide_true, decide_false, exists_prop, hptrAV]
  refine callX_by (valid_calls blk1 ha a) ?_
  rintro r hp1 ⟨rfl, rfl⟩
  cases hv1 : validL (spOf G).s a with
  | false =>
    simp only [go_sem, Int.natCast_nonneg, Nat.reduceEqDiff, Nat.reduceAdd, Nat.reduceSub, Nat.reduceLT, Nat.reduceMul, Nat.reduceBEq, Nat.reduceLeDiff, ↓reduceIte, Int.toNat_natCast, Int.reduceToNat, Int.toNat_zero, Int.toNat_one, not_true_eq_false, false_or, or_self, Nat.reduceGT, Option.isSome_some, Bool.and_self, Nat.zero_add, Nat.mul_one, List.length_map, List.take_length, Int.cast_ofNat_Int, Int.reduceLE, Int.reduceLT, Int.reduceGE, Int.reduceGT, Int.reduceEq, Int.reduceNe, Int.le_refl, Nat.le_refl, Nat.reduceAdd, ne_eq, not_false_eq_true, reduceCtorEq, beq_true, beq_false, BEq.rfl, Bool.not_true, Bool.not_false, decide_true, decide_false, exists_prop, hv1]
    exact ret_same ⟨by rw [SameRes, hv1]; rfl, rfl⟩
  | true =>
    simp only [go_sem, Int.natCast_nonneg, Nat.reduceEqDiff, Nat.reduceAdd, Nat.reduceSub, Nat.reduceLT, Nat.reduceMul, Nat.reduceBEq, Nat.reduceLeDiff, ↓reduceIte, Int.toNat_natCast, Int.reduceToNat, Int.toNat_zero, Int.toNat_one, not_true_eq_false, false_or, or_self, Nat.reduceGT, Option.isSome_some, Bool.and_self, Nat.zero_add, Nat.mul_one, List.length_map, List.take_length, Int.cast_ofNat_Int, Int.reduceLE, Int.reduceLT, Int.reduceGE, Int.reduceGT, Int.reduceEq, Int.reduceNe, Int.le_refl, Nat.le_refl, Nat.reduceAdd, ne_eq, not_false_eq_true, reduceCtorEq, beq_true, beq_false, BEq.rfl, Bool.not_true, Bool.not_false, decide_true, decide_false, exists_prop, hv1]
    refine callX_by (valid_calls blk2 hb b) ?_
    rintro r hp1 ⟨rfl, rfl⟩
    cases hv2 : validL (spOf H).s b with
    | false =>
      simp only [go_sem, Int.natCast_nonneg, Nat.reduceEqDiff, Nat.reduceAdd, Nat.reduceSub, Nat.reduceLT, Nat.reduceMul, Nat.reduceBEq, Nat.reduceLeDiff, ↓reduceIte, Int.toNat_natCast, Int.reduceToNat, Int.toNat_zero, Int.toNat_one, not_true_eq_false, false_or, or_self, Nat.reduceGT, Option.isSome_some, Bool.and_self, Nat.zero_add, Nat.mul_one, List.length_map, List.take_length, Int.cast_ofNat_Int, Int.reduceLE, Int.reduceLT, Int.reduceGE, Int.reduceGT, Int.reduceEq, Int.reduceNe, Int.le_refl, Nat.le_refl, Nat.reduceAdd, ne_eq, not_false_eq_true, reduceCtorEq, beq_true, beq_false, BEq.rfl, Bool.not_true, Bool.not_false, decide_true, decide_false, exists_prop, hv2]
      exact ret_same ⟨by rw [SameRes, hv1, hv2]; rfl, rfl⟩
    | true =>
      simp only [go_sem, Int.natCast_nonneg, Nat.reduceEqDiff, Nat.reduceAdd, Nat.reduceSub, Nat.reduceLT, Nat.reduceMul, Nat.reduceBEq, Nat.reduceLeDiff, ↓reduceIte, Int.toNat_natCast, Int.reduceToNat, Int.toNat_zero, Int.toNat_one, not_true_eq_false, false_or, or_self, Nat.reduceGT, Option.isSome_some, Bool.and_self, Nat.zero_add, Nat.mul_one, List.length_map, List.take_length, Int.cast_ofNat_Int, Int.reduceLE, Int.reduceLT, Int.reduceGE, Int.reduceGT, Int.reduceEq, Int.reduceNe, Int.le_refl, Nat.le_refl, Nat.reduceAdd, ne_eq, not_false_eq_true, reduceCtorEq, beq_true, beq_false, BEq.rfl, Bool.not_true, Bool.not_false, decide_true, decide_false, exists_prop, hv2]
      intro m1 hm1 m2 hm2 v10 hv10 v11 hv11
      have nm : m1 ≠ m2 := by rintro rfl; have := hm2.2.1; simp [Hp.setMp] at this
      have m1n : hp1.mp m1 = none := hm1.2.1
      have m2n : hp1.mp m2 = none := by have := hm2.2.1; simpa [Hp.setMp, Ne.symm nm] using this
      have n1 : v10 ≠ v11 := by rintro rfl; have := hv11.1; simp [Hp.setBlk] at this
      have hx1 := fun T T2 c c2 => del_one (Y := (hp1.setMp m1 []).setMp m2 []) (a := v10) (b := v11) hv10.1 n1 T T2 c c2
      have hv11n : hp1.blk v11 = none := by have := hv11.1; simpa [Hp.setBlk, Hp.setMp, Ne.symm n1] using this
      have hx2 := fun T cs => Hp.del_set ((hp1.setMp m1 []).setMp m2 []) v11 T cs hv11n
      simp only [go_sem, Int.natCast_nonneg, Nat.reduceEqDiff, Nat.reduceAdd, Nat.reduceSub, Nat.reduceLT, Nat.reduceMul, Nat.reduceBEq, Nat.reduceLeDiff, ↓reduceIte, Int.toNat_natCast, Int.reduceToNat, Int.toNat_zero, Int.toNat_one, not_true_eq_false, false_or, or_self, Nat.reduceGT, Option.isSome_some, Bool.and_self, Nat.zero_add, Nat.mul_one, List.length_map, List.take_length, Int.cast_ofNat_Int, Int.reduceLE, Int.reduceLT, Int.reduceGE, Int.reduceGT, Int.reduceEq, Int.reduceNe, Int.le_refl, Nat.le_refl, Nat.reduceAdd, ne_eq, not_false_eq_true, reduceCtorEq, beq_true, beq_false, BEq.rfl, Bool.not_true, Bool.not_false, decide_true, decide_false, exists_prop, n1, Ne.symm n1, hx1, hx2]
      intro bq hbq
      have hbqn : hp1.blk bq = none := hbq.1
      have hvw1 : VW G a := (valid_VW a).1 hv1
      have hvw2 : VW H b := (valid_VW b).1 hv2
      have hres : SameRes G a H b = .tup [.v (.bool (isoG G a H b)), iv 0] := by rw [SameRes, hv1, hv2]; rfl
      refine callX_by (acalls_ok (hp' := QHp hp1 m1 m2 bq (.slice none 0 0) [] [] hp1.sp) (same1_calls (X := hp1) (hq := .slice none 0 0) (sp0 := hp1.sp) nm _ _ ha hb (P := []) (Q := []) List.nodup_nil List.nodup_nil rfl a b (by simpa using hal)) (fun base m w h => ?_)) ?_
      · have h3 := HpOk.castBlk (cs' := [.lst 2 (.slice none 0 0) []]) h (b := bq) (T := 115) (cs := [.v (.slice none 0 0)]) (by simp [Hp.setBlk]) rfl (fun _ => ⟨(Cast.nil 2).2 m trivial, trivial⟩)
        rw [Hp.set_set] at h3
        exact h3.addSp (.inl rfl) (fun b hb => by cases hb)
      rintro r hp2 ⟨rfl, hq0, P0, Q0, rfl, hPQ⟩
      cases hr : runW [] [] a b with
      | false =>
        simp only [go_sem, Int.natCast_nonneg, Nat.reduceEqDiff, Nat.reduceAdd, Nat.reduceSub, Nat.reduceLT, Nat.reduceMul, Nat.reduceBEq, Nat.reduceLeDiff, ↓reduceIte, Int.toNat_natCast, Int.reduceToNat, Int.toNat_zero, Int.toNat_one, not_true_eq_false, false_or, or_self, Nat.reduceGT, Option.isSome_some, Bool.and_self, Nat.zero_add, Nat.mul_one, List.length_map, List.take_length, Int.cast_ofNat_Int, Int.reduceLE, Int.reduceLT, Int.reduceGE, Int.reduceGT, Int.reduceEq, Int.reduceNe, Int.le_refl, Nat.le_refl, Nat.reduceAdd, ne_eq, not_false_eq_true, reduceCtorEq, beq_true, beq_false, BEq.rfl, Bool.not_true, Bool.not_false, decide_true, decide_false, exists_prop]
        exact ret_le (qhp_le m1n m2n hbqn _ _ _) ⟨by rw [hres, same_none hvw1 hvw2 hr]; rfl, rfl⟩
      | true =>
        obtain ⟨rfl, rfl⟩ := hPQ hr
        simp only [go_sem, Int.natCast_nonneg, Nat.reduceEqDiff, Nat.reduceAdd, Nat.reduceSub, Nat.reduceLT, Nat.reduceMul, Nat.reduceBEq, Nat.reduceLeDiff, ↓reduceIte, Int.toNat_natCast, Int.reduceToNat, Int.toNat_zero, Int.toNat_one, not_true_eq_false, false_or, or_self, Nat.reduceGT, Option.isSome_some, Bool.and_self, Nat.zero_add, Nat.mul_one, List.length_map, List.take_length, Int.cast_ofNat_Int, Int.reduceLE, Int.reduceLT, Int.reduceGE, Int.reduceGT, Int.reduceEq, Int.reduceNe, Int.le_refl, Nat.le_refl, Nat.reduceAdd, ne_eq, not_false_eq_true, reduceCtorEq, beq_true, beq_false, BEq.rfl, Bool.not_true, Bool.not_false, decide_true, decide_false, exists_prop]
        refine aw_loopX 87 (fun x : SmG => [(0, .v (.pointer (some ⟨h1, 0, none⟩))), (2, .v (.pointer (some ⟨h2, 0, none⟩))), (12, .v (.pointer (some ⟨bq, 0, none⟩))), (13, .fn (.func 64) [] [.ref (.pointer (some ⟨v10, 0, none⟩)) [.v (.map (some m1))], .ref (.pointer (some ⟨v11, 0, none⟩)) [.v (.map (some m2))], .v (.pointer (some ⟨bq, 0, none⟩))]), (14, .v (.int .i64 x.i))])
          (fun x => QHp hp1 m1 m2 bq x.hq x.P x.Q hp1.sp) (fun x => SameI G a H b x.i x.P x.Q) (fun x => G.length + 1 - x.i) ⟨0, hq0, foundL [] a, foundL [] b⟩ (same_start hvw1 hvw2 hr)
          (le_mkSl rfl (Hp.le_refl _) (by simp [go_sem])) ?_
        rintro ⟨i, hq, P, Q⟩ hs
        simp only at hs
        have hPG := lok_len hs.p.ok
        have hQH := lok_len hs.q.ok
        have qb := qhp_q (hp := hp1) (m1 := m1) (m2 := m2) (bq := bq) hq P Q hp1.sp
        refine awp_sound (mu := [12]) _ _ _ ?_
        simp only [go_sem, Int.natCast_nonneg, Nat.reduceEqDiff, Nat.reduceAdd, Nat.reduceSub, Nat.reduceLT, Nat.reduceMul, Nat.reduceBEq, Nat.reduceLeDiff, ↓reduceIte, Int.toNat_natCast, Int.reduceToNat, Int.toNat_zero, Int.toNat_one, not_true_eq_false, false_or, or_self, Nat.reduceGT, Option.isSome_some, Bool.and_self, Nat.zero_add, Nat.mul_one, List.length_map, List.take_length, Int.cast_ofNat_Int, Int.reduceLE, Int.reduceLT, Int.reduceGE, Int.reduceGT, Int.reduceEq, Int.reduceNe, Int.le_refl, Nat.le_refl, Nat.reduceAdd, ne_eq, not_false_eq_true, reduceCtorEq, beq_true, beq_false, BEq.rfl, Bool.not_true, Bool.not_false, decide_true, decide_false, exists_prop, qb, prs_len hs.len]
        refine brK_mk (fun h3 => ?_) (fun h3 => ?_) <;> simp only [go_sem, Int.natCast_nonneg, Nat.reduceEqDiff, Nat.reduceAdd, Nat.reduceSub, Nat.reduceLT, Nat.reduceMul, Nat.reduceBEq, Nat.reduceLeDiff, ↓reduceIte, Int.toNat_natCast, Int.reduceToNat, Int.toNat_zero, Int.toNat_one, not_true_eq_false, false_or, or_self, Nat.reduceGT, Option.isSome_some, Bool.and_self, Nat.zero_add, Nat.mul_one, List.length_map, List.take_length, Int.cast_ofNat_Int, Int.reduceLE, Int.reduceLT, Int.reduceGE, Int.reduceGT, Int.reduceEq, Int.reduceNe, Int.le_refl, Nat.le_refl, Nat.reduceAdd, ne_eq, not_false_eq_true, reduceCtorEq, beq_true, beq_false, BEq.rfl, Bool.not_true, Bool.not_false, decide_true, decide_false, exists_prop, h3]
        · have hi : i < P.length := by simpa using h3
          obtain ⟨x, hx⟩ := some_at' P i hi
          obtain ⟨y, hy⟩ := some_at' Q i (by have := hs.len; omega)
          have hwi : IntKind.i64.wrap ((i : Int) + 1) = ((i + 1 : Nat) : Int) := IntWalk.i64_in _ (by omega)
          refine draw_by (mu := [12]) (fun h => h.blk bq = some (115, [.lst 2 hq (prsAV P Q)])) (.take 0 (.take 1 (.take 2 (.take 3 (.take 4 (.take 5 (.take 6 (.take 7 (.take 8 (.take 9 (.take 10 (.take 11 (.done))))))))))))) (by decide +kernel) qb (by decide +kernel) (by decide +kernel) ?_
          simp only [go_sem, Int.natCast_nonneg, Nat.reduceEqDiff, Nat.reduceAdd, Nat.reduceSub, Nat.reduceLT, Nat.reduceMul, Nat.reduceBEq, Nat.reduceLeDiff, ↓reduceIte, Int.toNat_natCast, Int.reduceToNat, Int.toNat_zero, Int.toNat_one, not_true_eq_false, false_or, or_self, Nat.reduceGT, Option.isSome_some, Bool.and_self, Nat.zero_add, Nat.mul_one, List.length_map, List.take_length, Int.cast_ofNat_Int, Int.reduceLE, Int.reduceLT, Int.reduceGE, Int.reduceGT, Int.reduceEq, Int.reduceNe, Int.le_refl, Nat.le_refl, Nat.reduceAdd, ne_eq, not_false_eq_true, reduceCtorEq, beq_true, beq_false, BEq.rfl, Bool.not_true, Bool.not_false, decide_true, decide_false, exists_prop, qb, prs_at hx hy, prAV, iv]
          refine ⟨fun h e => by rw [e]; simp only [go_sem, Int.natCast_nonneg, Nat.reduceEqDiff, Nat.reduceAdd, Nat.reduceSub, Nat.reduceLT, Nat.reduceMul, Nat.reduceBEq, Nat.reduceLeDiff, ↓reduceIte, Int.toNat_natCast, Int.reduceToNat, Int.toNat_zero, Int.toNat_one, not_true_eq_false, false_or, or_self, Nat.reduceGT, Option.isSome_some, Bool.and_self, Nat.zero_add, Nat.mul_one, List.length_map, List.take_length, Int.cast_ofNat_Int, Int.reduceLE, Int.reduceLT, Int.reduceGE, Int.reduceGT, Int.reduceEq, Int.reduceNe, Int.le_refl, Nat.le_refl, Nat.reduceAdd, ne_eq, not_false_eq_true, reduceCtorEq, beq_true, beq_false, BEq.rfl, Bool.not_true, Bool.not_false, decide_true, decide_false, exists_prop], fun h e => by rw [e]; simp only [go_sem, Int.natCast_nonneg, Nat.reduceEqDiff, Nat.reduceAdd, Nat.reduceSub, Nat.reduceLT, Nat.reduceMul, Nat.reduceBEq, Nat.reduceLeDiff, ↓reduceIte, Int.toNat_natCast, Int.reduceToNat, Int.toNat_zero, Int.toNat_one, not_true_eq_false, false_or, or_self, Nat.reduceGT, Option.isSome_some, Bool.and_self, Nat.zero_add, Nat.mul_one, List.length_map, List.take_length, Int.cast_ofNat_Int, Int.reduceLE, Int.reduceLT, Int.reduceGE, Int.reduceGT, Int.reduceEq, Int.reduceNe, Int.le_refl, Nat.le_refl, Nat.reduceAdd, ne_eq, not_false_eq_true, reduceCtorEq, beq_true, beq_false, BEq.rfl, Bool.not_true, Bool.not_false, decide_true, decide_false, exists_prop], ?_⟩
          have q1 : h1 ≠ bq := by rintro rfl; rw [hbqn] at blk1; cases blk1
          have q2 : h2 ≠ bq := by rintro rfl; rw [hbqn] at blk2; cases blk2
          have e1 : ∀ hq P Q l, (QHp hp1 m1 m2 bq hq P Q l).blk h1 = some (105, HeapV s1 c1 z1 o1 (spOf G)) := fun hq P Q l => by rw [qhp_blk q1]; exact blk1
          have e2 : ∀ hq P Q l, (QHp hp1 m1 m2 bq hq P Q l).blk h2 = some (105, HeapV s2 c2 z2 o2 (spOf H)) := fun hq P Q l => by rw [qhp_blk q2]; exact blk2
          have ob1 := lok_obj hs.p.ok (List.mem_of_getElem? hx)
          have ob2 := lok_obj hs.q.ok (List.mem_of_getElem? hy)
          obtain ⟨g10, g11, g12, g13, g14⟩ := obj_spec ob1
          obtain ⟨g20, g21, g22, g23, g24⟩ := obj_spec ob2
          have hc1 : (cellsO G).length = endO G := cellsO_len G
          have hc2 : (cellsO H).length = endO H := cellsO_len H
          have f1 : ((spOf G).c.take (x + (((origO G x).fs.length : Int) + 1)).toNat).drop (x + 1).toNat = (origO G x).fs := by have h := g14; simp only [fieldsL, show (spOf G).s = sizesO G from rfl, g12, Option.getD_some] at h; exact h
          have f2 : ((spOf H).c.take (y + (((origO H y).fs.length : Int) + 1)).toNat).drop (y + 1).toNat = (origO H y).fs := by have h := g24; simp only [fieldsL, show (spOf H).s = sizesO H from rfl, g22, Option.getD_some] at h; exact h
          refine draw_by (mu := [12]) (fun _ => True) (.take 0 (.take 1 (.take 2 (.take 3 (.take 5 (.take 6 (.take 7 (.take 8 (.br 4 (.br 9 (.take 10 (.take 11 (.take 12 (.take 13 (.take 14 (.take 15 (.take 16 (.take 18 (.take 19 (.take 20 (.take 21 (.br 17 (.br 22 (.br 23 (.take 24 (.take 25 (.done))) (.stop)) (.stop)) (.stop))))))))))))) (.stop)) (.stop)))))))))) (by decide +kernel) trivial (by decide +kernel) (by decide +kernel) ?_
          simp only [go_sem, Int.natCast_nonneg, Nat.reduceEqDiff, Nat.reduceAdd, Nat.reduceSub, Nat.reduceLT, Nat.reduceMul, Nat.reduceBEq, Nat.reduceLeDiff, ↓reduceIte, Int.toNat_natCast, Int.reduceToNat, Int.toNat_zero, Int.toNat_one, not_true_eq_false, false_or, or_self, Nat.reduceGT, Option.isSome_some, Bool.and_self, Nat.zero_add, Nat.mul_one, List.length_map, List.take_length, Int.cast_ofNat_Int, Int.reduceLE, Int.reduceLT, Int.reduceGE, Int.reduceGT, Int.reduceEq, Int.reduceNe, Int.le_refl, Nat.le_refl, Nat.reduceAdd, ne_eq, not_false_eq_true, reduceCtorEq, beq_true, beq_false, BEq.rfl, Bool.not_true, Bool.not_false, decide_true, decide_false, exists_prop]
          refine callX_by (tag_calls' (e1 ..) x ⟨false, (origO G x).tag⟩ g10 g11) ?_
          rintro r hp3 ⟨rfl, rfl⟩
          simp only [go_sem, Int.natCast_nonneg, Nat.reduceEqDiff, Nat.reduceAdd, Nat.reduceSub, Nat.reduceLT, Nat.reduceMul, Nat.reduceBEq, Nat.reduceLeDiff, ↓reduceIte, Int.toNat_natCast, Int.reduceToNat, Int.toNat_zero, Int.toNat_one, not_true_eq_false, false_or, or_self, Nat.reduceGT, Option.isSome_some, Bool.and_self, Nat.zero_add, Nat.mul_one, List.length_map, List.take_length, Int.cast_ofNat_Int, Int.reduceLE, Int.reduceLT, Int.reduceGE, Int.reduceGT, Int.reduceEq, Int.reduceNe, Int.le_refl, Nat.le_refl, Nat.reduceAdd, ne_eq, not_false_eq_true, reduceCtorEq, beq_true, beq_false, BEq.rfl, Bool.not_true, Bool.not_false, decide_true, decide_false, exists_prop, iv]
          refine callX_by (tag_calls' (e2 ..) y ⟨false, (origO H y).tag⟩ g20 g21) ?_
          rintro r hp3 ⟨rfl, rfl⟩
          simp only [go_sem, Int.natCast_nonneg, Nat.reduceEqDiff, Nat.reduceAdd, Nat.reduceSub, Nat.reduceLT, Nat.reduceMul, Nat.reduceBEq, Nat.reduceLeDiff, ↓reduceIte, Int.toNat_natCast, Int.reduceToNat, Int.toNat_zero, Int.toNat_one, not_true_eq_false, false_or, or_self, Nat.reduceGT, Option.isSome_some, Bool.and_self, Nat.zero_add, Nat.mul_one, List.length_map, List.take_length, Int.cast_ofNat_Int, Int.reduceLE, Int.reduceLT, Int.reduceGE, Int.reduceGT, Int.reduceEq, Int.reduceNe, Int.le_refl, Nat.le_refl, Nat.reduceAdd, ne_eq, not_false_eq_true, reduceCtorEq, beq_true, beq_false, BEq.rfl, Bool.not_true, Bool.not_false, decide_true, decide_false, exists_prop, iv]
          refine brK_mk (fun h4 => ?_) (fun h4 => ?_) <;> simp only [go_sem, Int.natCast_nonneg, Nat.reduceEqDiff, Nat.reduceAdd, Nat.reduceSub, Nat.reduceLT, Nat.reduceMul, Nat.reduceBEq, Nat.reduceLeDiff, ↓reduceIte, Int.toNat_natCast, Int.reduceToNat, Int.toNat_zero, Int.toNat_one, not_true_eq_false, false_or, or_self, Nat.reduceGT, Option.isSome_some, Bool.and_self, Nat.zero_add, Nat.mul_one, List.length_map, List.take_length, Int.cast_ofNat_Int, Int.reduceLE, Int.reduceLT, Int.reduceGE, Int.reduceGT, Int.reduceEq, Int.reduceNe, Int.le_refl, Nat.le_refl, Nat.reduceAdd, ne_eq, not_false_eq_true, reduceCtorEq, beq_true, beq_false, BEq.rfl, Bool.not_true, Bool.not_false, decide_true, decide_false, exists_prop, h4]
          · refine callX_by (fields_calls' (e1 ..) x _ g10 g12 (by omega) g13 (by rw [show (spOf G).c = cellsO G from rfl, hc1]; simp only [maxLen]; omega)) ?_
            rintro r hp3 ⟨⟨hf1, rfl⟩, rfl⟩
            rw [f1]
            simp only [go_sem, Int.natCast_nonneg, Nat.reduceEqDiff, Nat.reduceAdd, Nat.reduceSub, Nat.reduceLT, Nat.reduceMul, Nat.reduceBEq, Nat.reduceLeDiff, ↓reduceIte, Int.toNat_natCast, Int.reduceToNat, Int.toNat_zero, Int.toNat_one, not_true_eq_false, false_or, or_self, Nat.reduceGT, Option.isSome_some, Bool.and_self, Nat.zero_add, Nat.mul_one, List.length_map, List.take_length, Int.cast_ofNat_Int, Int.reduceLE, Int.reduceLT, Int.reduceGE, Int.reduceGT, Int.reduceEq, Int.reduceNe, Int.le_refl, Nat.le_refl, Nat.reduceAdd, ne_eq, not_false_eq_true, reduceCtorEq, beq_true, beq_false, BEq.rfl, Bool.not_true, Bool.not_false, decide_true, decide_false, exists_prop]
            refine callX_by (fields_calls' (e2 ..) y _ g20 g22 (by omega) g23 (by rw [show (spOf H).c = cellsO H from rfl, hc2]; simp only [maxLen]; omega)) ?_
            rintro r hp3 ⟨⟨hf2, rfl⟩, rfl⟩
            rw [f2]
            simp only [go_sem, Int.natCast_nonneg, Nat.reduceEqDiff, Nat.reduceAdd, Nat.reduceSub, Nat.reduceLT, Nat.reduceMul, Nat.reduceBEq, Nat.reduceLeDiff, ↓reduceIte, Int.toNat_natCast, Int.reduceToNat, Int.toNat_zero, Int.toNat_one, not_true_eq_false, false_or, or_self, Nat.reduceGT, Option.isSome_some, Bool.and_self, Nat.zero_add, Nat.mul_one, List.length_map, List.take_length, Int.cast_ofNat_Int, Int.reduceLE, Int.reduceLT, Int.reduceGE, Int.reduceGT, Int.reduceEq, Int.reduceNe, Int.le_refl, Nat.le_refl, Nat.reduceAdd, ne_eq, not_false_eq_true, reduceCtorEq, beq_true, beq_false, BEq.rfl, Bool.not_true, Bool.not_false, decide_true, decide_false, exists_prop]
            have hol := origO_len (G := G) x
            refine callX_by (same1_calls (X := hp1) nm _ _ hf1 hf2 hs.p.ok.nd hs.q.ok.nd hs.len (origO G x).fs (origO H y).fs (by omega)) ?_
            rintro r hp4 ⟨rfl, hq2, P2, Q2, rfl, hPQ2⟩
            cases hr2 : runW P Q (origO G x).fs (origO H y).fs with
            | false =>
              simp only [go_sem, Int.natCast_nonneg, Nat.reduceEqDiff, Nat.reduceAdd, Nat.reduceSub, Nat.reduceLT, Nat.reduceMul, Nat.reduceBEq, Nat.reduceLeDiff, ↓reduceIte, Int.toNat_natCast, Int.reduceToNat, Int.toNat_zero, Int.toNat_one, not_true_eq_false, false_or, or_self, Nat.reduceGT, Option.isSome_some, Bool.and_self, Nat.zero_add, Nat.mul_one, List.length_map, List.take_length, Int.cast_ofNat_Int, Int.reduceLE, Int.reduceLT, Int.reduceGE, Int.reduceGT, Int.reduceEq, Int.reduceNe, Int.le_refl, Nat.le_refl, Nat.reduceAdd, ne_eq, not_false_eq_true, reduceCtorEq, beq_true, beq_false, BEq.rfl, Bool.not_true, Bool.not_false, decide_true, decide_false, exists_prop]
              exact ret_le (qhp_le m1n m2n hbqn _ _ _) ⟨by rw [hres, same_fail wf1 wf2 hs hx hy (by rw [hr2, Bool.and_false])]; rfl, rfl⟩
            | true =>
              obtain ⟨rfl, rfl⟩ := hPQ2 hr2
              simp only [go_sem, Int.natCast_nonneg, Nat.reduceEqDiff, Nat.reduceAdd, Nat.reduceSub, Nat.reduceLT, Nat.reduceMul, Nat.reduceBEq, Nat.reduceLeDiff, ↓reduceIte, Int.toNat_natCast, Int.reduceToNat, Int.toNat_zero, Int.toNat_one, not_true_eq_false, false_or, or_self, Nat.reduceGT, Option.isSome_some, Bool.and_self, Nat.zero_add, Nat.mul_one, List.length_map, List.take_length, Int.cast_ofNat_Int, Int.reduceLE, Int.reduceLT, Int.reduceGE, Int.reduceGT, Int.reduceEq, Int.reduceNe, Int.le_refl, Nat.le_refl, Nat.reduceAdd, ne_eq, not_false_eq_true, reduceCtorEq, beq_true, beq_false, BEq.rfl, Bool.not_true, Bool.not_false, decide_true, decide_false, exists_prop, hwi]
              refine ⟨⟨i + 1, hq2, _, _⟩, by simp only; omega, same_step wf1 wf2 hs hx hy (by simpa using h4) hr2, le_mkSl rfl (by simp only [go_sem, Int.natCast_nonneg, Nat.reduceEqDiff, Nat.reduceAdd, Nat.reduceSub, Nat.reduceLT, Nat.reduceMul, Nat.reduceBEq, Nat.reduceLeDiff, ↓reduceIte, Int.toNat_natCast, Int.reduceToNat, Int.toNat_zero, Int.toNat_one, not_true_eq_false, false_or, or_self, Nat.reduceGT, Option.isSome_some, Bool.and_self, Nat.zero_add, Nat.mul_one, List.length_map, List.take_length, Int.cast_ofNat_Int, Int.reduceLE, Int.reduceLT, Int.reduceGE, Int.reduceGT, Int.reduceEq, Int.reduceNe, Int.le_refl, Nat.le_refl, Nat.reduceAdd, ne_eq, not_false_eq_true, reduceCtorEq, beq_true, beq_false, BEq.rfl, Bool.not_true, Bool.not_false, decide_true, decide_false, exists_prop]; exact Hp.le_refl _) (by simp [go_sem, hwi])⟩
          · exact ret_le (qhp_le m1n m2n hbqn _ _ _) ⟨by rw [hres, same_fail wf1 wf2 hs hx hy (by rw [h4, Bool.false_and])]; rfl, rfl⟩
        · exact ret_le (qhp_le m1n m2n hbqn _ _ _) ⟨by rw [hres, same_end hs (by simp at h3; omega)]; rfl, rfl⟩
end Go.Proofs.Ytfdlfcafcjhpmaa
