/- Heaps: the law HeapForks. -/
import Derived.Test.YtfdlfcafcjhpmaaCH26
set_option linter.unusedSimpArgs false
set_option linter.unusedVariables false
set_option maxRecDepth 20000
set_option maxHeartbeats 4000000
namespace Go.Proofs.Ytfdlfcafcjhpmaa
open Go.AL

theorem hhp_set {X : Hp} {h1 i : Nat} (hi : i ≠ h1) {size : Int} {c s o : Value} {G : List ObjG} {l2 : List (TypeId × Nat × Value)} (T : TypeId) (cs : List AV) : (HHp X h1 size c s o G l2).setBlk i T cs = HHp (X.setBlk i T cs) h1 size c s o G l2 := by
  simp only [HHp, Hp.setSp, Hp.setBlk, Hp.mk.injEq, and_true, true_and]
  funext j
  by_cases e1 : j = i
  · subst e1; simp [hi]
  · simp [e1]
theorem hh2_set {X : Hp} {h1 h2 i : Nat} (hi1 : i ≠ h1) (hi2 : i ≠ h2) {size : Int} {a b : Hdr} {G1 G2 : List ObjG} (T : TypeId) (cs : List AV) : (HH2 X h1 h2 size a b G1 G2).setBlk i T cs = HH2 (X.setBlk i T cs) h1 h2 size a b G1 G2 := by
  unfold HH2
  rw [hhp_set hi2, hhp_set hi1]; rfl
theorem hh2_blk {X : Hp} {h1 h2 i : Nat} (hi1 : i ≠ h1) (hi2 : i ≠ h2) (size : Int) (a b : Hdr) (G1 G2 : List ObjG) : (HH2 X h1 h2 size a b G1 G2).blk i = X.blk i := by
  simp [HH2, HHp, Hp.setSp, Hp.setBlk, hi1, hi2]
theorem hh2_blk1 {X : Hp} {h1 h2 : Nat} (hne : h1 ≠ h2) (size : Int) (a b : Hdr) (G1 G2 : List ObjG) : (HH2 X h1 h2 size a b G1 G2).blk h1 = some (105, HeapV size a.c a.s a.o (spOf G1)) := by
  simp [HH2, HHp, Hp.setSp, Hp.setBlk, hne]
theorem hh2_blk2 {X : Hp} {h1 h2 : Nat} (size : Int) (a b : Hdr) (G1 G2 : List ObjG) : (HH2 X h1 h2 size a b G1 G2).blk h2 = some (105, HeapV size b.c b.s b.o (spOf G2)) := by
  simp [HH2, HHp, Hp.setSp, Hp.setBlk]
theorem hp_set3 {X : Hp} {i j : Nat} (n : i ≠ j) (T T2 T3 : TypeId) (cs ds es : List AV) : ((X.setBlk i T cs).setBlk j T2 ds).setBlk i T3 es = (X.setBlk i T3 es).setBlk j T2 ds := by
  simp only [Hp.setBlk, Hp.mk.injEq, and_true, true_and]
  funext k
  by_cases e1 : k = i
  · subst e1; simp [n]
  · simp [e1]
/-- Between two rounds. -/
structure ForkG where
  k : Nat
  a : Hdr
  b : Hdr
  ho1 : Value
  ho2 : Value
  G1 : List ObjG
  G2 : List ObjG
  l1 : List RObj
  l2 : List RObj
structure ForkI (size : Int) (x : ForkG) : Prop where
  ok1 : Okay size x.G1
  ok2 : Okay size x.G2
  m1 : MR x.G1 x.l1
  m2 : MR x.G2 x.l2
theorem heapForks_calls (size : Int) (v0 va vb : Value) (l la lb : List OpG) (hw : ∀ x ∈ l, x.ws.length ≤ 8796093022000) (hwa : ∀ x ∈ la, x.ws.length ≤ 8796093022000) (hwb : ∀ x ∈ lb, x.ws.length ≤ 8796093022000) (hp : Hp) :
    ACalls Try.prog 4 [iv size, opsAV v0 l, opsAV va la, opsAV vb lb] hp (fun r hp' => r = .v (.bool true) ∧ hp' = hp) := by
  refine acalls_fit (callable_of Try.func4 (by decide +kernel)) fun hfit => ?_
  have hla : la.length ≤ maxLen := by have := hfit.2.2.1; simp only [opsAV, AV.fit, List.length_map] at this; exact this.1
  have hlb : lb.length ≤ maxLen := by have := hfit.2.2.2.1; simp only [opsAV, AV.fit, List.length_map] at this; exact this.1
  refine acalls_of Try.func4 rfl (by decide +kernel) (awp_sound (mu := [10, 13, 15, 17]) _ _ _ ?_)
  rw [show iv size = .v (.int .i64 size) from rfl]
  simp only [go_sem, Int.natCast_nonneg, Nat.reduceEqDiff, Nat.reduceAdd, Nat.reduceSub, Nat.reduceLT, Nat.reduceMul, Nat.reduceBEq, Nat.reduceLeDiff, ↓reduceIte, Int.toNat_natCast, Int.reduceToNat, Int.toNat_zero, Int.toNat_one, not_true_eq_false, false_or, or_self, Nat.reduceGT, Option.isSome_some, Bool.and_self, Nat.zero_add, Nat.mul_one, List.length_map, List.take_length, Int.cast_ofNat_Int, Int.reduceLE, Int.reduceLT, Int.reduceGE, Int.reduceGT, Int.reduceEq, Int.reduceNe, Int.le_refl, Nat.le_refl, Nat.reduceAdd, ne_eq, not_false_eq_true, reduceCtorEq, beq_true, beq_false, BEq.rfl, Bool.not_true, Bool.not_false, decide_true, decide_false, exists_prop]
  refine brK_mk (fun h1 => ?_) (fun h1 => ?_) <;> simp only [go_sem, Int.natCast_nonneg, Nat.reduceEqDiff, Nat.reduceAdd, Nat.reduceSub, Nat.reduceLT, Nat.reduceMul, Nat.reduceBEq, Nat.reduceLeDiff, ↓reduceIte, Int.toNat_natCast, Int.reduceToNat, Int.toNat_zero, Int.toNat_one, not_true_eq_false, false_or, or_self, Nat.reduceGT, Option.isSome_some, Bool.and_self, Nat.zero_add, Nat.mul_one, List.length_map, List.take_length, Int.cast_ofNat_Int, Int.reduceLE, Int.reduceLT, Int.reduceGE, Int.reduceGT, Int.reduceEq, Int.reduceNe, Int.le_refl, Nat.le_refl, Nat.reduceAdd, ne_eq, not_false_eq_true, reduceCtorEq, beq_true, beq_false, BEq.rfl, Bool.not_true, Bool.not_false, decide_true, decide_false, exists_prop, h1]
  · refine callX_by (awake_calls _) ?_
    rintro r hp1 ⟨rfl, rfl⟩
    simp only [go_sem, Int.natCast_nonneg, Nat.reduceEqDiff, Nat.reduceAdd, Nat.reduceSub, Nat.reduceLT, Nat.reduceMul, Nat.reduceBEq, Nat.reduceLeDiff, ↓reduceIte, Int.toNat_natCast, Int.reduceToNat, Int.toNat_zero, Int.toNat_one, not_true_eq_false, false_or, or_self, Nat.reduceGT, Option.isSome_some, Bool.and_self, Nat.zero_add, Nat.mul_one, List.length_map, List.take_length, Int.cast_ofNat_Int, Int.reduceLE, Int.reduceLT, Int.reduceGE, Int.reduceGT, Int.reduceEq, Int.reduceNe, Int.le_refl, Nat.le_refl, Nat.reduceAdd, ne_eq, not_false_eq_true, reduceCtorEq, beq_true, beq_false, BEq.rfl, Bool.not_true, Bool.not_false, decide_true, decide_false, exists_prop]
    exact ret_same ⟨rfl, rfl⟩
  · refine brK_mk (fun h2 => ?_) (fun h2 => ?_) <;> simp only [go_sem, Int.natCast_nonneg, Nat.reduceEqDiff, Nat.reduceAdd, Nat.reduceSub, Nat.reduceLT, Nat.reduceMul, Nat.reduceBEq, Nat.reduceLeDiff, ↓reduceIte, Int.toNat_natCast, Int.reduceToNat, Int.toNat_zero, Int.toNat_one, not_true_eq_false, false_or, or_self, Nat.reduceGT, Option.isSome_some, Bool.and_self, Nat.zero_add, Nat.mul_one, List.length_map, List.take_length, Int.cast_ofNat_Int, Int.reduceLE, Int.reduceLT, Int.reduceGE, Int.reduceGT, Int.reduceEq, Int.reduceNe, Int.le_refl, Nat.le_refl, Nat.reduceAdd, ne_eq, not_false_eq_true, reduceCtorEq, beq_true, beq_false, BEq.rfl, Bool.not_true, Bool.not_false, decide_true, decide_false, exists_prop, h2]
    · refine callX_by (awake_calls _) ?_
      rintro r hp1 ⟨rfl, rfl⟩
      simp only [go_sem, Int.natCast_nonneg, Nat.reduceEqDiff, Nat.reduceAdd, Nat.reduceSub, Nat.reduceLT, Nat.reduceMul, Nat.reduceBEq, Nat.reduceLeDiff, ↓reduceIte, Int.toNat_natCast, Int.reduceToNat, Int.toNat_zero, Int.toNat_one, not_true_eq_false, false_or, or_self, Nat.reduceGT, Option.isSome_some, Bool.and_self, Nat.zero_add, Nat.mul_one, List.length_map, List.take_length, Int.cast_ofNat_Int, Int.reduceLE, Int.reduceLT, Int.reduceGE, Int.reduceGT, Int.reduceEq, Int.reduceNe, Int.le_refl, Nat.le_refl, Nat.reduceAdd, ne_eq, not_false_eq_true, reduceCtorEq, beq_true, beq_false, BEq.rfl, Bool.not_true, Bool.not_false, decide_true, decide_false, exists_prop]
      exact ret_same ⟨rfl, rfl⟩
    · have hs1 : 0 ≤ size := by simpa using h1
      have hs2 : size ≤ 1048576 := by simpa using h2
      refine callX_by (few_calls v0 l _) ?_
      rintro r hp1 ⟨⟨f1, rfl⟩, rfl⟩
      cases f1 with
      | false =>
        simp only [go_sem, Int.natCast_nonneg, Nat.reduceEqDiff, Nat.reduceAdd, Nat.reduceSub, Nat.reduceLT, Nat.reduceMul, Nat.reduceBEq, Nat.reduceLeDiff, ↓reduceIte, Int.toNat_natCast, Int.reduceToNat, Int.toNat_zero, Int.toNat_one, not_true_eq_false, false_or, or_self, Nat.reduceGT, Option.isSome_some, Bool.and_self, Nat.zero_add, Nat.mul_one, List.length_map, List.take_length, Int.cast_ofNat_Int, Int.reduceLE, Int.reduceLT, Int.reduceGE, Int.reduceGT, Int.reduceEq, Int.reduceNe, Int.le_refl, Nat.le_refl, Nat.reduceAdd, ne_eq, not_false_eq_true, reduceCtorEq, beq_true, beq_false, BEq.rfl, Bool.not_true, Bool.not_false, decide_true, decide_false, exists_prop]
        refine callX_by (awake_calls _) ?_
        rintro r hp1 ⟨rfl, rfl⟩
        simp only [go_sem, Int.natCast_nonneg, Nat.reduceEqDiff, Nat.reduceAdd, Nat.reduceSub, Nat.reduceLT, Nat.reduceMul, Nat.reduceBEq, Nat.reduceLeDiff, ↓reduceIte, Int.toNat_natCast, Int.reduceToNat, Int.toNat_zero, Int.toNat_one, not_true_eq_false, false_or, or_self, Nat.reduceGT, Option.isSome_some, Bool.and_self, Nat.zero_add, Nat.mul_one, List.length_map, List.take_length, Int.cast_ofNat_Int, Int.reduceLE, Int.reduceLT, Int.reduceGE, Int.reduceGT, Int.reduceEq, Int.reduceNe, Int.le_refl, Nat.le_refl, Nat.reduceAdd, ne_eq, not_false_eq_true, reduceCtorEq, beq_true, beq_false, BEq.rfl, Bool.not_true, Bool.not_false, decide_true, decide_false, exists_prop]
        exact ret_same ⟨rfl, rfl⟩
      | true =>
        simp only [go_sem, Int.natCast_nonneg, Nat.reduceEqDiff, Nat.reduceAdd, Nat.reduceSub, Nat.reduceLT, Nat.reduceMul, Nat.reduceBEq, Nat.reduceLeDiff, ↓reduceIte, Int.toNat_natCast, Int.reduceToNat, Int.toNat_zero, Int.toNat_one, not_true_eq_false, false_or, or_self, Nat.reduceGT, Option.isSome_some, Bool.and_self, Nat.zero_add, Nat.mul_one, List.length_map, List.take_length, Int.cast_ofNat_Int, Int.reduceLE, Int.reduceLT, Int.reduceGE, Int.reduceGT, Int.reduceEq, Int.reduceNe, Int.le_refl, Nat.le_refl, Nat.reduceAdd, ne_eq, not_false_eq_true, reduceCtorEq, beq_true, beq_false, BEq.rfl, Bool.not_true, Bool.not_false, decide_true, decide_false, exists_prop]
        refine callX_by (few_calls va la _) ?_
        rintro r hp1 ⟨⟨f2, rfl⟩, rfl⟩
        cases f2 with
        | false =>
          simp only [go_sem, Int.natCast_nonneg, Nat.reduceEqDiff, Nat.reduceAdd, Nat.reduceSub, Nat.reduceLT, Nat.reduceMul, Nat.reduceBEq, Nat.reduceLeDiff, ↓reduceIte, Int.toNat_natCast, Int.reduceToNat, Int.toNat_zero, Int.toNat_one, not_true_eq_false, false_or, or_self, Nat.reduceGT, Option.isSome_some, Bool.and_self, Nat.zero_add, Nat.mul_one, List.length_map, List.take_length, Int.cast_ofNat_Int, Int.reduceLE, Int.reduceLT, Int.reduceGE, Int.reduceGT, Int.reduceEq, Int.reduceNe, Int.le_refl, Nat.le_refl, Nat.reduceAdd, ne_eq, not_false_eq_true, reduceCtorEq, beq_true, beq_false, BEq.rfl, Bool.not_true, Bool.not_false, decide_true, decide_false, exists_prop]
          refine callX_by (awake_calls _) ?_
          rintro r hp1 ⟨rfl, rfl⟩
          simp only [go_sem, Int.natCast_nonneg, Nat.reduceEqDiff, Nat.reduceAdd, Nat.reduceSub, Nat.reduceLT, Nat.reduceMul, Nat.reduceBEq, Nat.reduceLeDiff, ↓reduceIte, Int.toNat_natCast, Int.reduceToNat, Int.toNat_zero, Int.toNat_one, not_true_eq_false, false_or, or_self, Nat.reduceGT, Option.isSome_some, Bool.and_self, Nat.zero_add, Nat.mul_one, List.length_map, List.take_length, Int.cast_ofNat_Int, Int.reduceLE, Int.reduceLT, Int.reduceGE, Int.reduceGT, Int.reduceEq, Int.reduceNe, Int.le_refl, Nat.le_refl, Nat.reduceAdd, ne_eq, not_false_eq_true, reduceCtorEq, beq_true, beq_false, BEq.rfl, Bool.not_true, Bool.not_false, decide_true, decide_false, exists_prop]
          exact ret_same ⟨rfl, rfl⟩
        | true =>
          simp only [go_sem, Int.natCast_nonneg, Nat.reduceEqDiff, Nat.reduceAdd, Nat.reduceSub, Nat.reduceLT, Nat.reduceMul, Nat.reduceBEq, Nat.reduceLeDiff, ↓reduceIte, Int.toNat_natCast, Int.reduceToNat, Int.toNat_zero, Int.toNat_one, not_true_eq_false, false_or, or_self, Nat.reduceGT, Option.isSome_some, Bool.and_self, Nat.zero_add, Nat.mul_one, List.length_map, List.take_length, Int.cast_ofNat_Int, Int.reduceLE, Int.reduceLT, Int.reduceGE, Int.reduceGT, Int.reduceEq, Int.reduceNe, Int.le_refl, Nat.le_refl, Nat.reduceAdd, ne_eq, not_false_eq_true, reduceCtorEq, beq_true, beq_false, BEq.rfl, Bool.not_true, Bool.not_false, decide_true, decide_false, exists_prop]
          refine callX_by (few_calls vb lb _) ?_
          rintro r hp1 ⟨⟨f3, rfl⟩, rfl⟩
          cases f3 with
          | false =>
            simp only [go_sem, Int.natCast_nonneg, Nat.reduceEqDiff, Nat.reduceAdd, Nat.reduceSub, Nat.reduceLT, Nat.reduceMul, Nat.reduceBEq, Nat.reduceLeDiff, ↓reduceIte, Int.toNat_natCast, Int.reduceToNat, Int.toNat_zero, Int.toNat_one, not_true_eq_false, false_or, or_self, Nat.reduceGT, Option.isSome_some, Bool.and_self, Nat.zero_add, Nat.mul_one, List.length_map, List.take_length, Int.cast_ofNat_Int, Int.reduceLE, Int.reduceLT, Int.reduceGE, Int.reduceGT, Int.reduceEq, Int.reduceNe, Int.le_refl, Nat.le_refl, Nat.reduceAdd, ne_eq, not_false_eq_true, reduceCtorEq, beq_true, beq_false, BEq.rfl, Bool.not_true, Bool.not_false, decide_true, decide_false, exists_prop]
            refine callX_by (awake_calls _) ?_
            rintro r hp1 ⟨rfl, rfl⟩
            simp only [go_sem, Int.natCast_nonneg, Nat.reduceEqDiff, Nat.reduceAdd, Nat.reduceSub, Nat.reduceLT, Nat.reduceMul, Nat.reduceBEq, Nat.reduceLeDiff, ↓reduceIte, Int.toNat_natCast, Int.reduceToNat, Int.toNat_zero, Int.toNat_one, not_true_eq_false, false_or, or_self, Nat.reduceGT, Option.isSome_some, Bool.and_self, Nat.zero_add, Nat.mul_one, List.length_map, List.take_length, Int.cast_ofNat_Int, Int.reduceLE, Int.reduceLT, Int.reduceGE, Int.reduceGT, Int.reduceEq, Int.reduceNe, Int.le_refl, Nat.le_refl, Nat.reduceAdd, ne_eq, not_false_eq_true, reduceCtorEq, beq_true, beq_false, BEq.rfl, Bool.not_true, Bool.not_false, decide_true, decide_false, exists_prop]
            exact ret_same ⟨rfl, rfl⟩
          | true =>
            simp only [go_sem, Int.natCast_nonneg, Nat.reduceEqDiff, Nat.reduceAdd, Nat.reduceSub, Nat.reduceLT, Nat.reduceMul, Nat.reduceBEq, Nat.reduceLeDiff, ↓reduceIte, Int.toNat_natCast, Int.reduceToNat, Int.toNat_zero, Int.toNat_one, not_true_eq_false, false_or, or_self, Nat.reduceGT, Option.isSome_some, Bool.and_self, Nat.zero_add, Nat.mul_one, List.length_map, List.take_length, Int.cast_ofNat_Int, Int.reduceLE, Int.reduceLT, Int.reduceGE, Int.reduceGT, Int.reduceEq, Int.reduceNe, Int.le_refl, Nat.le_refl, Nat.reduceAdd, ne_eq, not_false_eq_true, reduceCtorEq, beq_true, beq_false, BEq.rfl, Bool.not_true, Bool.not_false, decide_true, decide_false, exists_prop]
            refine callX_by (made_calls size hs1 hs2 v0 l hw _) ?_
            rintro r hp2 ⟨hb, c, s, o, ho', l', G, rfl, hok, hm, hbn, rfl⟩
            simp only [go_sem, Int.natCast_nonneg, Nat.reduceEqDiff, Nat.reduceAdd, Nat.reduceSub, Nat.reduceLT, Nat.reduceMul, Nat.reduceBEq, Nat.reduceLeDiff, ↓reduceIte, Int.toNat_natCast, Int.reduceToNat, Int.toNat_zero, Int.toNat_one, not_true_eq_false, false_or, or_self, Nat.reduceGT, Option.isSome_some, Bool.and_self, Nat.zero_add, Nat.mul_one, List.length_map, List.take_length, Int.cast_ofNat_Int, Int.reduceLE, Int.reduceLT, Int.reduceGE, Int.reduceGT, Int.reduceEq, Int.reduceNe, Int.le_refl, Nat.le_refl, Nat.reduceAdd, ne_eq, not_false_eq_true, reduceCtorEq, beq_true, beq_false, BEq.rfl, Bool.not_true, Bool.not_false, decide_true, decide_false, exists_prop, modelAV, modelC, objsAV]
            intro b10 hb10
            have n10 : b10 ≠ hb := by rintro rfl; have := hb10.1; rw [hhp_blk] at this; cases this
            refine callX_by (fork3_calls (X := hp1.setBlk b10 31 [.v (.int .i64 size), .lst 3 ho' (l'.map RObj.av)]) (h1 := hb) (size := size) (a := ⟨c, s, o⟩) (G1 := G) hok (by rw [hhp_set n10]; exact Hp.le_refl _)) ?_
            rintro r hp2 ⟨bh, h2, rfl, hX2, hne, rfl⟩
            have n102 : b10 ≠ h2 := by rintro rfl; simp [Hp.setBlk] at hX2
            have hb10n : hp1.blk b10 = none := by have := hb10.1; simpa [HHp, Hp.setBlk, Hp.setSp, n10] using this
            have h2n : hp1.blk h2 = none := by simpa [Hp.setBlk, Ne.symm n102] using hX2
            have k10 := fun (X : Hp) (a b : Hdr) (G1 G2 : List ObjG) => hh2_blk (X := X) n10 n102 size a b G1 G2
            simp only [go_sem, Int.natCast_nonneg, Nat.reduceEqDiff, Nat.reduceAdd, Nat.reduceSub, Nat.reduceLT, Nat.reduceMul, Nat.reduceBEq, Nat.reduceLeDiff, ↓reduceIte, Int.toNat_natCast, Int.reduceToNat, Int.toNat_zero, Int.toNat_one, not_true_eq_false, false_or, or_self, Nat.reduceGT, Option.isSome_some, Bool.and_self, Nat.zero_add, Nat.mul_one, List.length_map, List.take_length, Int.cast_ofNat_Int, Int.reduceLE, Int.reduceLT, Int.reduceGE, Int.reduceGT, Int.reduceEq, Int.reduceNe, Int.le_refl, Nat.le_refl, Nat.reduceAdd, ne_eq, not_false_eq_true, reduceCtorEq, beq_true, beq_false, BEq.rfl, Bool.not_true, Bool.not_false, decide_true, decide_false, exists_prop, k10]
            intro b13 hb13
            have n13 : b13 ≠ hb := by rintro rfl; have := hb13.1; rw [hh2_blk1 hne] at this; cases this
            have n132 : b13 ≠ h2 := by rintro rfl; have := hb13.1; rw [hh2_blk2] at this; cases this
            have n1013 : b10 ≠ b13 := by rintro rfl; have := hb13.1; rw [k10] at this; simp [Hp.setBlk] at this
            have hb13n : hp1.blk b13 = none := by have := hb13.1; rw [hh2_blk n13 n132] at this; simpa [Hp.setBlk, Ne.symm n1013] using this
            have k13 := fun (X : Hp) (a b : Hdr) (G1 G2 : List ObjG) => hh2_blk (X := X) n13 n132 size a b G1 G2
            simp only [go_sem, Int.natCast_nonneg, Nat.reduceEqDiff, Nat.reduceAdd, Nat.reduceSub, Nat.reduceLT, Nat.reduceMul, Nat.reduceBEq, Nat.reduceLeDiff, ↓reduceIte, Int.toNat_natCast, Int.reduceToNat, Int.toNat_zero, Int.toNat_one, not_true_eq_false, false_or, or_self, Nat.reduceGT, Option.isSome_some, Bool.and_self, Nat.zero_add, Nat.mul_one, List.length_map, List.take_length, Int.cast_ofNat_Int, Int.reduceLE, Int.reduceLT, Int.reduceGE, Int.reduceGT, Int.reduceEq, Int.reduceNe, Int.le_refl, Nat.le_refl, Nat.reduceAdd, ne_eq, not_false_eq_true, reduceCtorEq, beq_true, beq_false, BEq.rfl, Bool.not_true, Bool.not_false, decide_true, decide_false, exists_prop, hptrAV]
            rw [hh2_set n13 n132]
            refine aw_loopX 127 (fun x : ForkG => [(0, .v (.int .i64 size)), (2, opsAV va la), (3, opsAV vb lb), (9, hptrAV hb), (10, .v (.pointer (some ⟨b10, 0, none⟩))), (11, .v (.bool true)), (12, hptrAV h2), (13, .v (.pointer (some ⟨b13, 0, none⟩))), (14, .v (.int .i64 x.k))])
              (fun x => HH2 ((hp1.setBlk b10 31 [.v (.int .i64 size), .lst 3 x.ho1 (x.l1.map RObj.av)]).setBlk b13 31 [.v (.int .i64 size), .lst 3 x.ho2 (x.l2.map RObj.av)]) hb h2 size x.a x.b x.G1 x.G2) (fun x => x.k ≤ la.length + lb.length ∧ ForkI size x) (fun x => la.length + lb.length - x.k) ⟨0, ⟨c, s, o⟩, bh, ho', ho', G, G, l', l'⟩ ⟨Nat.zero_le _, hok, hok, hm, hm⟩
              (le_mkSl rfl (by simp only [go_sem, Int.natCast_nonneg, Nat.reduceEqDiff, Nat.reduceAdd, Nat.reduceSub, Nat.reduceLT, Nat.reduceMul, Nat.reduceBEq, Nat.reduceLeDiff, ↓reduceIte, Int.toNat_natCast, Int.reduceToNat, Int.toNat_zero, Int.toNat_one, not_true_eq_false, false_or, or_self, Nat.reduceGT, Option.isSome_some, Bool.and_self, Nat.zero_add, Nat.mul_one, List.length_map, List.take_length, Int.cast_ofNat_Int, Int.reduceLE, Int.reduceLT, Int.reduceGE, Int.reduceGT, Int.reduceEq, Int.reduceNe, Int.le_refl, Nat.le_refl, Nat.reduceAdd, ne_eq, not_false_eq_true, reduceCtorEq, beq_true, beq_false, BEq.rfl, Bool.not_true, Bool.not_false, decide_true, decide_false, exists_prop]; exact Hp.le_refl _) (by simp [go_sem, hptrAV])) ?_
            rintro ⟨k, a, b, ho1, ho2, G1, G2, l1, l2⟩ ⟨hk, ok1, ok2, m1, m2⟩
            simp only at hk ok1 ok2 m1 m2
            refine awp_sound (mu := [10, 13, 15, 17]) _ _ _ ?_
            simp only [go_sem, Int.natCast_nonneg, Nat.reduceEqDiff, Nat.reduceAdd, Nat.reduceSub, Nat.reduceLT, Nat.reduceMul, Nat.reduceBEq, Nat.reduceLeDiff, ↓reduceIte, Int.toNat_natCast, Int.reduceToNat, Int.toNat_zero, Int.toNat_one, not_true_eq_false, false_or, or_self, Nat.reduceGT, Option.isSome_some, Bool.and_self, Nat.zero_add, Nat.mul_one, List.length_map, List.take_length, Int.cast_ofNat_Int, Int.reduceLE, Int.reduceLT, Int.reduceGE, Int.reduceGT, Int.reduceEq, Int.reduceNe, Int.le_refl, Nat.le_refl, Nat.reduceAdd, ne_eq, not_false_eq_true, reduceCtorEq, beq_true, beq_false, BEq.rfl, Bool.not_true, Bool.not_false, decide_true, decide_false, exists_prop, hptrAV, opsAV]
            refine brK_mk (fun h3 => ?_) (fun h3 => ?_) <;> simp only [go_sem, Int.natCast_nonneg, Nat.reduceEqDiff, Nat.reduceAdd, Nat.reduceSub, Nat.reduceLT, Nat.reduceMul, Nat.reduceBEq, Nat.reduceLeDiff, ↓reduceIte, Int.toNat_natCast, Int.reduceToNat, Int.toNat_zero, Int.toNat_one, not_true_eq_false, false_or, or_self, Nat.reduceGT, Option.isSome_some, Bool.and_self, Nat.zero_add, Nat.mul_one, List.length_map, List.take_length, Int.cast_ofNat_Int, Int.reduceLE, Int.reduceLT, Int.reduceGE, Int.reduceGT, Int.reduceEq, Int.reduceNe, Int.le_refl, Nat.le_refl, Nat.reduceAdd, ne_eq, not_false_eq_true, reduceCtorEq, beq_true, beq_false, BEq.rfl, Bool.not_true, Bool.not_false, decide_true, decide_false, exists_prop, h3]
            · have hk' : k < la.length := by simpa using h3
              obtain ⟨x, hx⟩ := some_at' la k hk'
              have hwx := hwa x (List.mem_of_getElem? hx)
              have hwu := upW k _ hk' hla
              refine draw_by (mu := [10, 13, 15, 17]) (fun _ => True) (.take 0 (.take 2 (.take 3 (.take 4 (.take 5 (.br 1 (.br 6 (.take 7 (.take 8 (.take 9 (.br 10 (.take 11 (.done)) (.stop))))) (.stop)) (.stop))))))) (by decide +kernel) trivial (by decide +kernel) (by decide +kernel) ?_
              simp only [go_sem, Int.natCast_nonneg, Nat.reduceEqDiff, Nat.reduceAdd, Nat.reduceSub, Nat.reduceLT, Nat.reduceMul, Nat.reduceBEq, Nat.reduceLeDiff, ↓reduceIte, Int.toNat_natCast, Int.reduceToNat, Int.toNat_zero, Int.toNat_one, not_true_eq_false, false_or, or_self, Nat.reduceGT, Option.isSome_some, Bool.and_self, Nat.zero_add, Nat.mul_one, List.length_map, List.take_length, Int.cast_ofNat_Int, Int.reduceLE, Int.reduceLT, Int.reduceGE, Int.reduceGT, Int.reduceEq, Int.reduceNe, Int.le_refl, Nat.le_refl, Nat.reduceAdd, ne_eq, not_false_eq_true, reduceCtorEq, beq_true, beq_false, BEq.rfl, Bool.not_true, Bool.not_false, decide_true, decide_false, exists_prop, map_at' OpG.av _ _ _ hx, OpG.av, OpG.cs, iv, wordsAV, k10, n1013]
              refine callX_by (doA_calls hne ok1 (Hp.le_refl _) ho1 m1 x hwx) ?_
              rintro r hp3 ⟨ho3, l3, a3, rfl, m3, rfl⟩
              have ok3 := step_okay ok1 x
              generalize stepG size G1 x = G3 at *
              simp only [go_sem, Int.natCast_nonneg, Nat.reduceEqDiff, Nat.reduceAdd, Nat.reduceSub, Nat.reduceLT, Nat.reduceMul, Nat.reduceBEq, Nat.reduceLeDiff, ↓reduceIte, Int.toNat_natCast, Int.reduceToNat, Int.toNat_zero, Int.toNat_one, not_true_eq_false, false_or, or_self, Nat.reduceGT, Option.isSome_some, Bool.and_self, Nat.zero_add, Nat.mul_one, List.length_map, List.take_length, Int.cast_ofNat_Int, Int.reduceLE, Int.reduceLT, Int.reduceGE, Int.reduceGT, Int.reduceEq, Int.reduceNe, Int.le_refl, Nat.le_refl, Nat.reduceAdd, ne_eq, not_false_eq_true, reduceCtorEq, beq_true, beq_false, BEq.rfl, Bool.not_true, Bool.not_false, decide_true, decide_false, exists_prop, hh2_set n10 n102, hh2_set n13 n132, hp_set3 n1013, Hp.set_set, modelAV, modelC, objsAV, k10, k13, n1013, Ne.symm n1013]
              refine brK_mk (fun h4 => ?_) (fun h4 => ?_) <;> simp only [go_sem, Int.natCast_nonneg, Nat.reduceEqDiff, Nat.reduceAdd, Nat.reduceSub, Nat.reduceLT, Nat.reduceMul, Nat.reduceBEq, Nat.reduceLeDiff, ↓reduceIte, Int.toNat_natCast, Int.reduceToNat, Int.toNat_zero, Int.toNat_one, not_true_eq_false, false_or, or_self, Nat.reduceGT, Option.isSome_some, Bool.and_self, Nat.zero_add, Nat.mul_one, List.length_map, List.take_length, Int.cast_ofNat_Int, Int.reduceLE, Int.reduceLT, Int.reduceGE, Int.reduceGT, Int.reduceEq, Int.reduceNe, Int.le_refl, Nat.le_refl, Nat.reduceAdd, ne_eq, not_false_eq_true, reduceCtorEq, beq_true, beq_false, BEq.rfl, Bool.not_true, Bool.not_false, decide_true, decide_false, exists_prop, h4]
              · have hkb : k < lb.length := by simpa using h4
                obtain ⟨y, hy⟩ := some_at' lb k hkb
                have hwy := hwb y (List.mem_of_getElem? hy)
                have hwu := upW k _ hkb hlb
                refine draw_by (mu := [10, 13, 15, 17]) (fun _ => True) (.take 0 (.take 2 (.take 3 (.take 4 (.take 5 (.br 1 (.br 6 (.take 7 (.take 8 (.take 9 (.br 10 (.take 11 (.done)) (.stop))))) (.stop)) (.stop))))))) (by decide +kernel) trivial (by decide +kernel) (by decide +kernel) ?_
                simp only [go_sem, Int.natCast_nonneg, Nat.reduceEqDiff, Nat.reduceAdd, Nat.reduceSub, Nat.reduceLT, Nat.reduceMul, Nat.reduceBEq, Nat.reduceLeDiff, ↓reduceIte, Int.toNat_natCast, Int.reduceToNat, Int.toNat_zero, Int.toNat_one, not_true_eq_false, false_or, or_self, Nat.reduceGT, Option.isSome_some, Bool.and_self, Nat.zero_add, Nat.mul_one, List.length_map, List.take_length, Int.cast_ofNat_Int, Int.reduceLE, Int.reduceLT, Int.reduceGE, Int.reduceGT, Int.reduceEq, Int.reduceNe, Int.le_refl, Nat.le_refl, Nat.reduceAdd, ne_eq, not_false_eq_true, reduceCtorEq, beq_true, beq_false, BEq.rfl, Bool.not_true, Bool.not_false, decide_true, decide_false, exists_prop, map_at' OpG.av _ _ _ hy, OpG.av, OpG.cs, iv, wordsAV, k13, n1013, Ne.symm n1013]
                refine callX_by (doB_calls ok2 (Hp.le_refl _) ho2 m2 y hwy) ?_
                rintro r hp4 ⟨ho4, l4, b4, rfl, m4, rfl⟩
                have ok4 := step_okay ok2 y
                generalize stepG size G2 y = G4 at *
                simp only [go_sem, Int.natCast_nonneg, Nat.reduceEqDiff, Nat.reduceAdd, Nat.reduceSub, Nat.reduceLT, Nat.reduceMul, Nat.reduceBEq, Nat.reduceLeDiff, ↓reduceIte, Int.toNat_natCast, Int.reduceToNat, Int.toNat_zero, Int.toNat_one, not_true_eq_false, false_or, or_self, Nat.reduceGT, Option.isSome_some, Bool.and_self, Nat.zero_add, Nat.mul_one, List.length_map, List.take_length, Int.cast_ofNat_Int, Int.reduceLE, Int.reduceLT, Int.reduceGE, Int.reduceGT, Int.reduceEq, Int.reduceNe, Int.le_refl, Nat.le_refl, Nat.reduceAdd, ne_eq, not_false_eq_true, reduceCtorEq, beq_true, beq_false, BEq.rfl, Bool.not_true, Bool.not_false, decide_true, decide_false, exists_prop, hh2_set n10 n102, hh2_set n13 n132, hp_set3 n1013, Hp.set_set, modelAV, modelC, objsAV, k10, k13, n1013, Ne.symm n1013, hwu]
                refine ⟨⟨k + 1, a3, b4, ho3, ho4, G3, G4, l3, l4⟩, by simp only; omega, ⟨by simp only; omega, ok3, ok4, m3, m4⟩, le_mkSl rfl (by simp only [go_sem, Int.natCast_nonneg, Nat.reduceEqDiff, Nat.reduceAdd, Nat.reduceSub, Nat.reduceLT, Nat.reduceMul, Nat.reduceBEq, Nat.reduceLeDiff, ↓reduceIte, Int.toNat_natCast, Int.reduceToNat, Int.toNat_zero, Int.toNat_one, not_true_eq_false, false_or, or_self, Nat.reduceGT, Option.isSome_some, Bool.and_self, Nat.zero_add, Nat.mul_one, List.length_map, List.take_length, Int.cast_ofNat_Int, Int.reduceLE, Int.reduceLT, Int.reduceGE, Int.reduceGT, Int.reduceEq, Int.reduceNe, Int.le_refl, Nat.le_refl, Nat.reduceAdd, ne_eq, not_false_eq_true, reduceCtorEq, beq_true, beq_false, BEq.rfl, Bool.not_true, Bool.not_false, decide_true, decide_false, exists_prop]; exact Hp.le_refl _) (by simp [go_sem, hptrAV, opsAV, hwu])⟩
              · simp only [hwu]
                refine ⟨⟨k + 1, a3, b, ho3, ho2, G3, G2, l3, l2⟩, by simp only; omega, ⟨by simp only; omega, ok3, ok2, m3, m2⟩, le_mkSl rfl (by simp only [go_sem, Int.natCast_nonneg, Nat.reduceEqDiff, Nat.reduceAdd, Nat.reduceSub, Nat.reduceLT, Nat.reduceMul, Nat.reduceBEq, Nat.reduceLeDiff, ↓reduceIte, Int.toNat_natCast, Int.reduceToNat, Int.toNat_zero, Int.toNat_one, not_true_eq_false, false_or, or_self, Nat.reduceGT, Option.isSome_some, Bool.and_self, Nat.zero_add, Nat.mul_one, List.length_map, List.take_length, Int.cast_ofNat_Int, Int.reduceLE, Int.reduceLT, Int.reduceGE, Int.reduceGT, Int.reduceEq, Int.reduceNe, Int.le_refl, Nat.le_refl, Nat.reduceAdd, ne_eq, not_false_eq_true, reduceCtorEq, beq_true, beq_false, BEq.rfl, Bool.not_true, Bool.not_false, decide_true, decide_false, exists_prop]; exact Hp.le_refl _) (by simp [go_sem, hptrAV, opsAV, hwu])⟩
            · refine brK_mk (fun h4 => ?_) (fun h4 => ?_) <;> simp only [go_sem, Int.natCast_nonneg, Nat.reduceEqDiff, Nat.reduceAdd, Nat.reduceSub, Nat.reduceLT, Nat.reduceMul, Nat.reduceBEq, Nat.reduceLeDiff, ↓reduceIte, Int.toNat_natCast, Int.reduceToNat, Int.toNat_zero, Int.toNat_one, not_true_eq_false, false_or, or_self, Nat.reduceGT, Option.isSome_some, Bool.and_self, Nat.zero_add, Nat.mul_one, List.length_map, List.take_length, Int.cast_ofNat_Int, Int.reduceLE, Int.reduceLT, Int.reduceGE, Int.reduceGT, Int.reduceEq, Int.reduceNe, Int.le_refl, Nat.le_refl, Nat.reduceAdd, ne_eq, not_false_eq_true, reduceCtorEq, beq_true, beq_false, BEq.rfl, Bool.not_true, Bool.not_false, decide_true, decide_false, exists_prop, h4, h3]
              · have hkb : k < lb.length := by simpa using h4
                obtain ⟨y, hy⟩ := some_at' lb k hkb
                have hwy := hwb y (List.mem_of_getElem? hy)
                have hwu := upW k _ hkb hlb
                refine draw_by (mu := [10, 13, 15, 17]) (fun _ => True) (.take 0 (.take 2 (.take 3 (.take 4 (.take 5 (.br 1 (.br 6 (.take 7 (.take 8 (.take 9 (.br 10 (.take 11 (.done)) (.stop))))) (.stop)) (.stop))))))) (by decide +kernel) trivial (by decide +kernel) (by decide +kernel) ?_
                simp only [go_sem, Int.natCast_nonneg, Nat.reduceEqDiff, Nat.reduceAdd, Nat.reduceSub, Nat.reduceLT, Nat.reduceMul, Nat.reduceBEq, Nat.reduceLeDiff, ↓reduceIte, Int.toNat_natCast, Int.reduceToNat, Int.toNat_zero, Int.toNat_one, not_true_eq_false, false_or, or_self, Nat.reduceGT, Option.isSome_some, Bool.and_self, Nat.zero_add, Nat.mul_one, List.length_map, List.take_length, Int.cast_ofNat_Int, Int.reduceLE, Int.reduceLT, Int.reduceGE, Int.reduceGT, Int.reduceEq, Int.reduceNe, Int.le_refl, Nat.le_refl, Nat.reduceAdd, ne_eq, not_false_eq_true, reduceCtorEq, beq_true, beq_false, BEq.rfl, Bool.not_true, Bool.not_false, decide_true, decide_false, exists_prop, map_at' OpG.av _ _ _ hy, OpG.av, OpG.cs, iv, wordsAV, k13, n1013, Ne.symm n1013]
                refine callX_by (doB_calls ok2 (Hp.le_refl _) ho2 m2 y hwy) ?_
                rintro r hp4 ⟨ho4, l4, b4, rfl, m4, rfl⟩
                have ok4 := step_okay ok2 y
                generalize stepG size G2 y = G4 at *
                simp only [go_sem, Int.natCast_nonneg, Nat.reduceEqDiff, Nat.reduceAdd, Nat.reduceSub, Nat.reduceLT, Nat.reduceMul, Nat.reduceBEq, Nat.reduceLeDiff, ↓reduceIte, Int.toNat_natCast, Int.reduceToNat, Int.toNat_zero, Int.toNat_one, not_true_eq_false, false_or, or_self, Nat.reduceGT, Option.isSome_some, Bool.and_self, Nat.zero_add, Nat.mul_one, List.length_map, List.take_length, Int.cast_ofNat_Int, Int.reduceLE, Int.reduceLT, Int.reduceGE, Int.reduceGT, Int.reduceEq, Int.reduceNe, Int.le_refl, Nat.le_refl, Nat.reduceAdd, ne_eq, not_false_eq_true, reduceCtorEq, beq_true, beq_false, BEq.rfl, Bool.not_true, Bool.not_false, decide_true, decide_false, exists_prop, hh2_set n10 n102, hh2_set n13 n132, hp_set3 n1013, Hp.set_set, modelAV, modelC, objsAV, k10, k13, n1013, Ne.symm n1013, hwu]
                refine ⟨⟨k + 1, a, b4, ho1, ho4, G1, G4, l1, l4⟩, by simp only; omega, ⟨by simp only; omega, ok1, ok4, m1, m4⟩, le_mkSl rfl (by simp only [go_sem, Int.natCast_nonneg, Nat.reduceEqDiff, Nat.reduceAdd, Nat.reduceSub, Nat.reduceLT, Nat.reduceMul, Nat.reduceBEq, Nat.reduceLeDiff, ↓reduceIte, Int.toNat_natCast, Int.reduceToNat, Int.toNat_zero, Int.toNat_one, not_true_eq_false, false_or, or_self, Nat.reduceGT, Option.isSome_some, Bool.and_self, Nat.zero_add, Nat.mul_one, List.length_map, List.take_length, Int.cast_ofNat_Int, Int.reduceLE, Int.reduceLT, Int.reduceGE, Int.reduceGT, Int.reduceEq, Int.reduceNe, Int.le_refl, Nat.le_refl, Nat.reduceAdd, ne_eq, not_false_eq_true, reduceCtorEq, beq_true, beq_false, BEq.rfl, Bool.not_true, Bool.not_false, decide_true, decide_false, exists_prop]; exact Hp.le_refl _) (by simp [go_sem, hptrAV, opsAV, hwu])⟩
              · skip
                refine callX_by (read_calls (hb := hb) (G := G1) (size := size) (hc := a.c) (hs := a.s) (ho := a.o) (hh2_blk1 hne size a b G1 G2) ok1) ?_
                rintro r hp3 ⟨⟨h98, l98, rfl, m98⟩, rfl⟩
                simp only [go_sem, Int.natCast_nonneg, Nat.reduceEqDiff, Nat.reduceAdd, Nat.reduceSub, Nat.reduceLT, Nat.reduceMul, Nat.reduceBEq, Nat.reduceLeDiff, ↓reduceIte, Int.toNat_natCast, Int.reduceToNat, Int.toNat_zero, Int.toNat_one, not_true_eq_false, false_or, or_self, Nat.reduceGT, Option.isSome_some, Bool.and_self, Nat.zero_add, Nat.mul_one, List.length_map, List.take_length, Int.cast_ofNat_Int, Int.reduceLE, Int.reduceLT, Int.reduceGE, Int.reduceGT, Int.reduceEq, Int.reduceNe, Int.le_refl, Nat.le_refl, Nat.reduceAdd, ne_eq, not_false_eq_true, reduceCtorEq, beq_true, beq_false, BEq.rfl, Bool.not_true, Bool.not_false, decide_true, decide_false, exists_prop, modelAV, modelC, objsAV]
                intro b15 hb15
                have n15 : b15 ≠ hb := by rintro rfl; have := hb15.1; rw [hh2_blk1 hne] at this; cases this
                have n152 : b15 ≠ h2 := by rintro rfl; have := hb15.1; rw [hh2_blk2] at this; cases this
                have n1015 : b10 ≠ b15 := by rintro rfl; have := hb15.1; rw [k10] at this; simp [Hp.setBlk, n1013] at this
                have n1315 : b13 ≠ b15 := by rintro rfl; have := hb15.1; rw [k13] at this; simp [Hp.setBlk, n1013] at this
                have hb15n : hp1.blk b15 = none := by have := hb15.1; rw [hh2_blk n15 n152] at this; simpa [Hp.setBlk, Ne.symm n1015, Ne.symm n1315] using this
                have k15 := fun (X : Hp) (a b : Hdr) (G1 G2 : List ObjG) => hh2_blk (X := X) n15 n152 size a b G1 G2
                skip
                rw [hh2_set n15 n152]
                refine callX_by (read_calls (hb := h2) (G := G2) (size := size) (hc := b.c) (hs := b.s) (ho := b.o) (hh2_blk2 size a b G1 G2) ok2) ?_
                rintro r hp3 ⟨⟨h104, l104, rfl, m104⟩, rfl⟩
                simp only [go_sem, Int.natCast_nonneg, Nat.reduceEqDiff, Nat.reduceAdd, Nat.reduceSub, Nat.reduceLT, Nat.reduceMul, Nat.reduceBEq, Nat.reduceLeDiff, ↓reduceIte, Int.toNat_natCast, Int.reduceToNat, Int.toNat_zero, Int.toNat_one, not_true_eq_false, false_or, or_self, Nat.reduceGT, Option.isSome_some, Bool.and_self, Nat.zero_add, Nat.mul_one, List.length_map, List.take_length, Int.cast_ofNat_Int, Int.reduceLE, Int.reduceLT, Int.reduceGE, Int.reduceGT, Int.reduceEq, Int.reduceNe, Int.le_refl, Nat.le_refl, Nat.reduceAdd, ne_eq, not_false_eq_true, reduceCtorEq, beq_true, beq_false, BEq.rfl, Bool.not_true, Bool.not_false, decide_true, decide_false, exists_prop, modelAV, modelC, objsAV]
                intro b17 hb17
                have n17 : b17 ≠ hb := by rintro rfl; have := hb17.1; rw [hh2_blk1 hne] at this; cases this
                have n172 : b17 ≠ h2 := by rintro rfl; have := hb17.1; rw [hh2_blk2] at this; cases this
                have n1017 : b10 ≠ b17 := by rintro rfl; have := hb17.1; rw [k10] at this; simp [Hp.setBlk, n1013, n1015] at this
                have n1317 : b13 ≠ b17 := by rintro rfl; have := hb17.1; rw [k13] at this; simp [Hp.setBlk, n1013, n1315] at this
                have n1517 : b15 ≠ b17 := by rintro rfl; have := hb17.1; rw [k15] at this; simp [Hp.setBlk] at this
                have hb17n : hp1.blk b17 = none := by have := hb17.1; rw [hh2_blk n17 n172] at this; simpa [Hp.setBlk, Ne.symm n1017, Ne.symm n1317, Ne.symm n1517] using this
                have k17 := fun (X : Hp) (a b : Hdr) (G1 G2 : List ObjG) => hh2_blk (X := X) n17 n172 size a b G1 G2
                skip
                rw [hh2_set n17 n172]
                simp only [go_sem, Int.natCast_nonneg, Nat.reduceEqDiff, Nat.reduceAdd, Nat.reduceSub, Nat.reduceLT, Nat.reduceMul, Nat.reduceBEq, Nat.reduceLeDiff, ↓reduceIte, Int.toNat_natCast, Int.reduceToNat, Int.toNat_zero, Int.toNat_one, not_true_eq_false, false_or, or_self, Nat.reduceGT, Option.isSome_some, Bool.and_self, Nat.zero_add, Nat.mul_one, List.length_map, List.take_length, Int.cast_ofNat_Int, Int.reduceLE, Int.reduceLT, Int.reduceGE, Int.reduceGT, Int.reduceEq, Int.reduceNe, Int.le_refl, Nat.le_refl, Nat.reduceAdd, ne_eq, not_false_eq_true, reduceCtorEq, beq_true, beq_false, BEq.rfl, Bool.not_true, Bool.not_false, decide_true, decide_false, exists_prop, k10, k13, k15, k17, n1013, n1015, n1017, n1315, n1317, n1517]
                refine callX_by (equal_calls size size h98 ho1 l98 l1 _) ?_
                rintro r hp4 ⟨rfl, rfl⟩
                have heq1 : sameL eqR l98 l1 = true := (equal_iff m98 m1).2 rfl
                simp only [go_sem, Int.natCast_nonneg, Nat.reduceEqDiff, Nat.reduceAdd, Nat.reduceSub, Nat.reduceLT, Nat.reduceMul, Nat.reduceBEq, Nat.reduceLeDiff, ↓reduceIte, Int.toNat_natCast, Int.reduceToNat, Int.toNat_zero, Int.toNat_one, not_true_eq_false, false_or, or_self, Nat.reduceGT, Option.isSome_some, Bool.and_self, Nat.zero_add, Nat.mul_one, List.length_map, List.take_length, Int.cast_ofNat_Int, Int.reduceLE, Int.reduceLT, Int.reduceGE, Int.reduceGT, Int.reduceEq, Int.reduceNe, Int.le_refl, Nat.le_refl, Nat.reduceAdd, ne_eq, not_false_eq_true, reduceCtorEq, beq_true, beq_false, BEq.rfl, Bool.not_true, Bool.not_false, decide_true, decide_false, exists_prop, heq1, k10, k13, k15, k17, n1013, n1015, n1017, n1315, n1317, n1517]
                refine callX_by (equal_calls size size h104 ho2 l104 l2 _) ?_
                rintro r hp4 ⟨rfl, rfl⟩
                have heq2 : sameL eqR l104 l2 = true := (equal_iff m104 m2).2 rfl
                simp only [go_sem, Int.natCast_nonneg, Nat.reduceEqDiff, Nat.reduceAdd, Nat.reduceSub, Nat.reduceLT, Nat.reduceMul, Nat.reduceBEq, Nat.reduceLeDiff, ↓reduceIte, Int.toNat_natCast, Int.reduceToNat, Int.toNat_zero, Int.toNat_one, not_true_eq_false, false_or, or_self, Nat.reduceGT, Option.isSome_some, Bool.and_self, Nat.zero_add, Nat.mul_one, List.length_map, List.take_length, Int.cast_ofNat_Int, Int.reduceLE, Int.reduceLT, Int.reduceGE, Int.reduceGT, Int.reduceEq, Int.reduceNe, Int.le_refl, Nat.le_refl, Nat.reduceAdd, ne_eq, not_false_eq_true, reduceCtorEq, beq_true, beq_false, BEq.rfl, Bool.not_true, Bool.not_false, decide_true, decide_false, exists_prop, heq2]
                refine callX_by (awake_calls _) ?_
                rintro r hp4 ⟨rfl, rfl⟩
                simp only [go_sem, Int.natCast_nonneg, Nat.reduceEqDiff, Nat.reduceAdd, Nat.reduceSub, Nat.reduceLT, Nat.reduceMul, Nat.reduceBEq, Nat.reduceLeDiff, ↓reduceIte, Int.toNat_natCast, Int.reduceToNat, Int.toNat_zero, Int.toNat_one, not_true_eq_false, false_or, or_self, Nat.reduceGT, Option.isSome_some, Bool.and_self, Nat.zero_add, Nat.mul_one, List.length_map, List.take_length, Int.cast_ofNat_Int, Int.reduceLE, Int.reduceLT, Int.reduceGE, Int.reduceGT, Int.reduceEq, Int.reduceNe, Int.le_refl, Nat.le_refl, Nat.reduceAdd, ne_eq, not_false_eq_true, reduceCtorEq, beq_true, beq_false, BEq.rfl, Bool.not_true, Bool.not_false, decide_true, decide_false, exists_prop]
                refine ret_le (hp' := hp1) ⟨fun i x hi => ?_, fun _ _ h => h, ?_, fun _ h => h⟩ ⟨rfl, rfl⟩
                · have e1 : i ≠ hb := by rintro rfl; rw [hbn] at hi; cases hi
                  have e2 : i ≠ h2 := by rintro rfl; rw [h2n] at hi; cases hi
                  have e3 : i ≠ b10 := by rintro rfl; rw [hb10n] at hi; cases hi
                  have e4 : i ≠ b13 := by rintro rfl; rw [hb13n] at hi; cases hi
                  have e5 : i ≠ b15 := by rintro rfl; rw [hb15n] at hi; cases hi
                  have e6 : i ≠ b17 := by rintro rfl; rw [hb17n] at hi; cases hi
                  rw [hh2_blk e1 e2]
                  simpa [Hp.setBlk, e3, e4, e5, e6] using hi
                · rw [hh2_sp]
                  exact (List.sublist_append_right [_, _, _] _).trans (List.sublist_append_right [_, _, _] _)
end Go.Proofs.Ytfdlfcafcjhpmaa
