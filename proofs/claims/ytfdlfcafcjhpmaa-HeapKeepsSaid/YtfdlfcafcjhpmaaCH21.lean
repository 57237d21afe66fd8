/- Heaps: the chapter's example. -/
import Derived.Test.YtfdlfcafcjhpmaaCH19
set_option linter.unusedSimpArgs false
set_option linter.unusedVariables false
set_option maxRecDepth 20000
set_option maxHeartbeats 4000000
namespace Go.Proofs.Ytfdlfcafcjhpmaa
open Go.AL

theorem hhp_blk (hp : Hp) (hb : Nat) (size : Int) (c s o : Value) (G : List ObjG) (l2 : List (TypeId × Nat × Value)) : (HHp hp hb size c s o G l2).blk hb = some (105, HeapV size c s o (spOf G)) := by
  simp [HHp, Hp.setSp, Hp.setBlk]
theorem hhp_hhp (hp : Hp) (hb : Nat) (size : Int) (c s o c' s' o' : Value) (G G' : List ObjG) (l2 : List (TypeId × Nat × Value)) : HHp (HHp hp hb size c s o G l2) hb size c' s' o' G' l2 = HHp hp hb size c' s' o' G' l2 := by
  have e : ((hp.setBlk hb 105 (HeapV size c s o (spOf G))).setBlk hb 105 (HeapV size c' s' o' (spOf G'))) = hp.setBlk hb 105 (HeapV size c' s' o' (spOf G')) := Hp.set_set ..
  unfold HHp
  rw [← e]
  rfl

section
variable {hp X : Hp} {hb : Nat} {size : Int} {c s o : Value} {G : List ObjG} {l2 : List (TypeId × Nat × Value)}
theorem halloc_calls (hx : (HHp hp hb size c s o G l2).le X) (hok : Okay size G) (tag : Int) (hf : Value) (fs : List WordG) : ACalls Try.prog 32 [hptrAV hb, iv tag, wordsAV hf fs] X
    (fun r hp' => ∃ c' s' o', r = .tup [iv (if allocE size (spOf G) tag fs = 0 then (endO G : Nat) else 0), iv (allocE size (spOf G) tag fs)] ∧ hp' = HHp hp hb size c' s' o' (allocG size G tag fs) l2) := by
  have hN := hok.n
  have hGl := len_endO G
  have hc1 : (spOf G).c.length = endO G := cellsO_len G
  have hs1 : (spOf G).s.length = endO G := sizesO_len G
  have ho1 : (spOf G).o.length = G.length := addrsF_len 0 G
  refine acalls_less hx ((allocH_calls (l2 := l2) (hhp_blk ..) rfl tag hf fs (by omega) (by omega) (by omega)).mono ?_)
  rintro r hp' ⟨rfl, hh⟩
  rw [hc1]
  rcases hh with ⟨he, rfl⟩ | ⟨he, c', s', o', rfl⟩
  · exact ⟨c, s, o, rfl, by rw [allocG, if_neg he]⟩
  · refine ⟨c', s', o', rfl, ?_⟩
    rw [allocG, if_pos he, ← hhp_hhp hp hb size c s o c' s' o' G (G ++ [(⟨tag, fs⟩ : ObjG)]) l2, spOf_app]; rfl
theorem hcollect_calls (hx : (HHp hp hb size c s o G l2).le X) (hok : Okay size G) (hr : Value) (roots : List WordG) (hrl : roots.length ≤ 8796093022000) : ACalls Try.prog 29 [hptrAV hb, wordsAV hr roots] X
    (fun r hp' => (validL (spOf G).s roots = false ∧ r = .tup [wordsAV (.slice none 0 0) [], iv 171] ∧ hp' = HHp hp hb size c s o G l2) ∨
      (validL (spOf G).s roots = true ∧ ∃ h' c' s' o', r = .tup [wordsAV h' (collR G roots), iv 0] ∧ hp' = HHp hp hb size c' s' o' (collG G roots) l2)) := by
  have hN := hok.n
  refine acalls_less hx ((collect_calls (l2 := l2) (hhp_blk ..) rfl hr roots hok.wf (by omega) hrl).mono ?_)
  rintro r hp' (⟨hv, rfl, rfl⟩ | ⟨hv, h', c', s', o', rfl, rfl⟩)
  · exact .inl ⟨hv, rfl, rfl⟩
  · exact .inr ⟨hv, h', c', s', o', rfl, (hhp_hhp ..)⟩
theorem hfields_calls (hx : (HHp hp hb size c s o G l2).le X) (hok : Okay size G) (a : Int) : ACalls Try.prog 34 [hptrAV hb, iv a] X
    (fun r hp' => (∃ h, r = .tup [wordsAV h (if hasL (spOf G).s a = true then fieldsL (spOf G) a else []), iv (if hasL (spOf G).s a = true then 0 else 171)]) ∧ hp' = HHp hp hb size c s o G l2) := by
  have hN := hok.n
  have hc1 : (spOf G).c.length = endO G := cellsO_len G
  exact acalls_less hx (fieldsH_calls (hhp_blk ..) (spOk G) (by omega) a)
theorem hused_calls (hx : (HHp hp hb size c s o G l2).le X) (hok : Okay size G) : ACalls Try.prog 18 [hptrAV hb] X (fun r hp' => r = iv (endO G : Nat) ∧ hp' = HHp hp hb size c s o G l2) := by
  have hc1 : (spOf G).c.length = endO G := cellsO_len G
  rw [← hc1]
  exact acalls_less hx (usedH_calls (hhp_blk ..))
end

theorem hhp_le {hp : Hp} {hb : Nat} {size : Int} {c s o : Value} {G : List ObjG} (h : hp.blk hb = none) : hp.le (HHp hp hb size c s o G hp.sp) :=
  le_fresh (hp := hp) (l := hp.sp) (T := 105) h rfl rfl (by simp only [HHp, Hp.setSp, spE]; exact ((List.sublist_cons_self _ _).trans (List.sublist_cons_self _ _)).trans (List.sublist_cons_self _ _)) rfl
theorem num_calls (n : Int) (hp : Hp) : ACalls Try.prog 55 [iv n] hp (fun r hp' => r = WordG.av ⟨false, n⟩ ∧ hp' = hp) := by
  refine acalls_of Try.func55 rfl (by decide +kernel) (awp_sound (mu := [2]) _ _ _ ?_)
  simp only [go_sem, Int.natCast_nonneg, Nat.reduceEqDiff, Nat.reduceAdd, Nat.reduceSub, Nat.reduceLT, Nat.reduceMul, Nat.reduceBEq, Nat.reduceLeDiff, ↓reduceIte, Int.toNat_natCast, Int.reduceToNat, Int.toNat_zero, Int.toNat_one, not_true_eq_false, false_or, or_self, Nat.reduceGT, Option.isSome_some, Bool.and_self, Nat.zero_add, Nat.mul_one, List.length_map, List.take_length, Int.cast_ofNat_Int, Int.reduceLE, Int.reduceLT, Int.reduceGE, Int.reduceGT, Int.reduceEq, Int.reduceNe, Int.le_refl, Nat.le_refl, Nat.reduceAdd, ne_eq, not_false_eq_true, reduceCtorEq, beq_true, beq_false, BEq.rfl, Bool.not_true, Bool.not_false, decide_true, decide_false, exists_prop, iv]
  intro b hb
  exact ret_le (hp' := hp) (le_fresh (l := hp.sp) hb.1 rfl rfl (List.Sublist.refl _) rfl) ⟨rfl, rfl⟩
theorem ref_calls (n : Int) (hp : Hp) : ACalls Try.prog 56 [iv n] hp (fun r hp' => r = WordG.av ⟨true, n⟩ ∧ hp' = hp) := by
  refine acalls_of Try.func56 rfl (by decide +kernel) (awp_sound (mu := [2]) _ _ _ ?_)
  simp only [go_sem, Int.natCast_nonneg, Nat.reduceEqDiff, Nat.reduceAdd, Nat.reduceSub, Nat.reduceLT, Nat.reduceMul, Nat.reduceBEq, Nat.reduceLeDiff, ↓reduceIte, Int.toNat_natCast, Int.reduceToNat, Int.toNat_zero, Int.toNat_one, not_true_eq_false, false_or, or_self, Nat.reduceGT, Option.isSome_some, Bool.and_self, Nat.zero_add, Nat.mul_one, List.length_map, List.take_length, Int.cast_ofNat_Int, Int.reduceLE, Int.reduceLT, Int.reduceGE, Int.reduceGT, Int.reduceEq, Int.reduceNe, Int.le_refl, Nat.le_refl, Nat.reduceAdd, ne_eq, not_false_eq_true, reduceCtorEq, beq_true, beq_false, BEq.rfl, Bool.not_true, Bool.not_false, decide_true, decide_false, exists_prop, iv]
  intro b hb
  exact ret_le (hp' := hp) (le_fresh (l := hp.sp) hb.1 rfl rfl (List.Sublist.refl _) rfl) ⟨rfl, rfl⟩

def exA : List ObjG := [⟨1, [⟨false, 5⟩]⟩]
def exB : List ObjG := [⟨1, [⟨false, 5⟩]⟩, ⟨2, [⟨true, 0⟩, ⟨false, 6⟩]⟩]
def exC : List ObjG := [⟨1, [⟨false, 5⟩]⟩, ⟨2, [⟨true, 0⟩, ⟨false, 6⟩]⟩, ⟨3, [⟨true, 2⟩, ⟨true, 2⟩]⟩]
theorem exA_e : allocE 10 (spOf []) 1 [⟨false, 5⟩] = 0 := by decide +kernel
theorem exB_e : allocE 10 (spOf exA) 2 [⟨true, 0⟩, ⟨false, 6⟩] = 0 := by decide +kernel
theorem exC_e : allocE 10 (spOf exB) 3 [⟨true, 2⟩, ⟨true, 2⟩] = 0 := by decide +kernel
theorem exD_e : allocE 10 (spOf exC) 0 [⟨false, 0⟩, ⟨false, 0⟩] = 170 := by decide +kernel
theorem exA_g : allocG 10 [] 1 [⟨false, 5⟩] = exA := by rw [allocG, if_pos exA_e]; rfl
theorem exB_g : allocG 10 exA 2 [⟨true, 0⟩, ⟨false, 6⟩] = exB := by rw [allocG, if_pos exB_e]; rfl
theorem exC_g : allocG 10 exB 3 [⟨true, 2⟩, ⟨true, 2⟩] = exC := by rw [allocG, if_pos exC_e]; rfl
theorem exD_g : allocG 10 exC 0 [⟨false, 0⟩, ⟨false, 0⟩] = exC := by rw [allocG, if_neg (by rw [exD_e]; decide)]
theorem okay_nil {size : Int} (h0 : 0 ≤ size) (h : size ≤ 1048576) : Okay size [] := ⟨fun o ho => (by cases ho), (by simpa [endO] using h0), h⟩
theorem exA_ok : Okay 10 exA := exA_g ▸ alloc_okay (okay_nil (by decide) (by decide)) _ _
theorem exB_ok : Okay 10 exB := exB_g ▸ alloc_okay exA_ok _ _
theorem exC_ok : Okay 10 exC := exC_g ▸ alloc_okay exB_ok _ _
def exE : List ObjG := [⟨2, [⟨true, 3⟩, ⟨false, 6⟩]⟩, ⟨1, [⟨false, 5⟩]⟩]
theorem ex_v : validL (spOf exC).s [⟨true, 2⟩] = true := by decide +kernel
theorem exE_g : collG exC [⟨true, 2⟩] = exE := by rfl
theorem exE_r : collR exC [⟨true, 2⟩] = [⟨true, 0⟩] := by rfl
theorem exE_ok : Okay 10 exE := exE_g ▸ coll_okay exC_ok ((valid_VW _).1 ex_v)
theorem ex_n0 : ((endO [] : Nat) : Int) = 0 := rfl
theorem ex_nA : ((endO exA : Nat) : Int) = 2 := rfl
theorem ex_nB : ((endO exB : Nat) : Int) = 5 := rfl
theorem ex_nE : ((endO exE : Nat) : Int) = 5 := rfl
theorem exE_h : hasL (spOf exE).s 0 = true := by decide +kernel
theorem exE_f : fieldsL (spOf exE) 0 = [⟨true, 3⟩, ⟨false, 6⟩] := by rfl

theorem awake_calls (hp : Hp) : ACalls Try.prog 14 [] hp (fun r hp' => r = .v (.bool true) ∧ hp' = hp) := by
  refine acalls_of Try.func14 rfl (by decide +kernel) (awp_sound (mu := []) _ _ _ ?_)
  simp only [go_sem, Int.natCast_nonneg, Nat.reduceEqDiff, Nat.reduceAdd, Nat.reduceSub, Nat.reduceLT, Nat.reduceMul, Nat.reduceBEq, Nat.reduceLeDiff, ↓reduceIte, Int.toNat_natCast, Int.reduceToNat, Int.toNat_zero, Int.toNat_one, not_true_eq_false, false_or, or_self, Nat.reduceGT, Option.isSome_some, Bool.and_self, Nat.zero_add, Nat.mul_one, List.length_map, List.take_length, Int.cast_ofNat_Int, Int.reduceLE, Int.reduceLT, Int.reduceGE, Int.reduceGT, Int.reduceEq, Int.reduceNe, Int.le_refl, Nat.le_refl, Nat.reduceAdd, ne_eq, not_false_eq_true, reduceCtorEq, beq_true, beq_false, BEq.rfl, Bool.not_true, Bool.not_false, decide_true, decide_false, exists_prop]
  refine callX_by (new_calls 10 _) ?_
  rintro r hp1 (⟨hb, rfl, rfl⟩ | ⟨-, b, rfl, hfr, rfl⟩)
  · cases hb
  rw [show (hp.setBlk b 105 (HeapV 10 (.slice none 0 0) (.slice none 0 0) (.slice none 0 0) ⟨[], [], []⟩)).setSp (spE (.slice none 0 0) (.slice none 0 0) (.slice none 0 0) hp.sp) = HHp hp b 10 (.slice none 0 0) (.slice none 0 0) (.slice none 0 0) [] hp.sp from rfl]
  simp only [go_sem, Int.natCast_nonneg, Nat.reduceEqDiff, Nat.reduceAdd, Nat.reduceSub, Nat.reduceLT, Nat.reduceMul, Nat.reduceBEq, Nat.reduceLeDiff, ↓reduceIte, Int.toNat_natCast, Int.reduceToNat, Int.toNat_zero, Int.toNat_one, not_true_eq_false, false_or, or_self, Nat.reduceGT, Option.isSome_some, Bool.and_self, Nat.zero_add, Nat.mul_one, List.length_map, List.take_length, Int.cast_ofNat_Int, Int.reduceLE, Int.reduceLT, Int.reduceGE, Int.reduceGT, Int.reduceEq, Int.reduceNe, Int.le_refl, Nat.le_refl, Nat.reduceAdd, ne_eq, not_false_eq_true, reduceCtorEq, beq_true, beq_false, BEq.rfl, Bool.not_true, Bool.not_false, decide_true, decide_false, exists_prop, hptrAV, iv]
  refine callX_by (num_calls 5 _) ?_
  rintro r hp2 ⟨rfl, rfl⟩
  simp only [go_sem, Int.natCast_nonneg, Nat.reduceEqDiff, Nat.reduceAdd, Nat.reduceSub, Nat.reduceLT, Nat.reduceMul, Nat.reduceBEq, Nat.reduceLeDiff, ↓reduceIte, Int.toNat_natCast, Int.reduceToNat, Int.toNat_zero, Int.toNat_one, not_true_eq_false, false_or, or_self, Nat.reduceGT, Option.isSome_some, Bool.and_self, Nat.zero_add, Nat.mul_one, List.length_map, List.take_length, Int.cast_ofNat_Int, Int.reduceLE, Int.reduceLT, Int.reduceGE, Int.reduceGT, Int.reduceEq, Int.reduceNe, Int.le_refl, Nat.le_refl, Nat.reduceAdd, ne_eq, not_false_eq_true, reduceCtorEq, beq_true, beq_false, BEq.rfl, Bool.not_true, Bool.not_false, decide_true, decide_false, exists_prop, WordG.av, WordG.cs]
  refine ⟨rfl, by simp, fun hd1 => ?_⟩
  refine callX_by (halloc_calls (Hp.le_addSp _ _) (okay_nil (by decide) (by decide)) 1 hd1 [⟨false, 5⟩]) ?_
  rintro r hp3 ⟨c1, s1, o1, rfl, rfl⟩
  rw [exA_g]
  simp only [go_sem, Int.natCast_nonneg, Nat.reduceEqDiff, Nat.reduceAdd, Nat.reduceSub, Nat.reduceLT, Nat.reduceMul, Nat.reduceBEq, Nat.reduceLeDiff, ↓reduceIte, Int.toNat_natCast, Int.reduceToNat, Int.toNat_zero, Int.toNat_one, not_true_eq_false, false_or, or_self, Nat.reduceGT, Option.isSome_some, Bool.and_self, Nat.zero_add, Nat.mul_one, List.length_map, List.take_length, Int.cast_ofNat_Int, Int.reduceLE, Int.reduceLT, Int.reduceGE, Int.reduceGT, Int.reduceEq, Int.reduceNe, Int.le_refl, Nat.le_refl, Nat.reduceAdd, ne_eq, not_false_eq_true, reduceCtorEq, beq_true, beq_false, BEq.rfl, Bool.not_true, Bool.not_false, decide_true, decide_false, exists_prop, exA_e, iv]
  refine callX_by (ref_calls 0 _) ?_
  rintro r hp2 ⟨rfl, rfl⟩
  simp only [go_sem, Int.natCast_nonneg, Nat.reduceEqDiff, Nat.reduceAdd, Nat.reduceSub, Nat.reduceLT, Nat.reduceMul, Nat.reduceBEq, Nat.reduceLeDiff, ↓reduceIte, Int.toNat_natCast, Int.reduceToNat, Int.toNat_zero, Int.toNat_one, not_true_eq_false, false_or, or_self, Nat.reduceGT, Option.isSome_some, Bool.and_self, Nat.zero_add, Nat.mul_one, List.length_map, List.take_length, Int.cast_ofNat_Int, Int.reduceLE, Int.reduceLT, Int.reduceGE, Int.reduceGT, Int.reduceEq, Int.reduceNe, Int.le_refl, Nat.le_refl, Nat.reduceAdd, ne_eq, not_false_eq_true, reduceCtorEq, beq_true, beq_false, BEq.rfl, Bool.not_true, Bool.not_false, decide_true, decide_false, exists_prop, WordG.av, WordG.cs]
  refine callX_by (num_calls 6 _) ?_
  rintro r hp2 ⟨rfl, rfl⟩
  simp only [go_sem, Int.natCast_nonneg, Nat.reduceEqDiff, Nat.reduceAdd, Nat.reduceSub, Nat.reduceLT, Nat.reduceMul, Nat.reduceBEq, Nat.reduceLeDiff, ↓reduceIte, Int.toNat_natCast, Int.reduceToNat, Int.toNat_zero, Int.toNat_one, not_true_eq_false, false_or, or_self, Nat.reduceGT, Option.isSome_some, Bool.and_self, Nat.zero_add, Nat.mul_one, List.length_map, List.take_length, Int.cast_ofNat_Int, Int.reduceLE, Int.reduceLT, Int.reduceGE, Int.reduceGT, Int.reduceEq, Int.reduceNe, Int.le_refl, Nat.le_refl, Nat.reduceAdd, ne_eq, not_false_eq_true, reduceCtorEq, beq_true, beq_false, BEq.rfl, Bool.not_true, Bool.not_false, decide_true, decide_false, exists_prop, WordG.av, WordG.cs]
  refine ⟨rfl, by simp, fun hd2 => ?_⟩
  refine callX_by (halloc_calls (Hp.le_addSp _ _) exA_ok 2 hd2 [⟨true, 0⟩, ⟨false, 6⟩]) ?_
  rintro r hp3 ⟨c2, s2, o2, rfl, rfl⟩
  rw [exB_g]
  simp only [go_sem, Int.natCast_nonneg, Nat.reduceEqDiff, Nat.reduceAdd, Nat.reduceSub, Nat.reduceLT, Nat.reduceMul, Nat.reduceBEq, Nat.reduceLeDiff, ↓reduceIte, Int.toNat_natCast, Int.reduceToNat, Int.toNat_zero, Int.toNat_one, not_true_eq_false, false_or, or_self, Nat.reduceGT, Option.isSome_some, Bool.and_self, Nat.zero_add, Nat.mul_one, List.length_map, List.take_length, Int.cast_ofNat_Int, Int.reduceLE, Int.reduceLT, Int.reduceGE, Int.reduceGT, Int.reduceEq, Int.reduceNe, Int.le_refl, Nat.le_refl, Nat.reduceAdd, ne_eq, not_false_eq_true, reduceCtorEq, beq_true, beq_false, BEq.rfl, Bool.not_true, Bool.not_false, decide_true, decide_false, exists_prop, exB_e, iv]
  refine callX_by (ref_calls 2 _) ?_
  rintro r hp2 ⟨rfl, rfl⟩
  simp only [go_sem, Int.natCast_nonneg, Nat.reduceEqDiff, Nat.reduceAdd, Nat.reduceSub, Nat.reduceLT, Nat.reduceMul, Nat.reduceBEq, Nat.reduceLeDiff, ↓reduceIte, Int.toNat_natCast, Int.reduceToNat, Int.toNat_zero, Int.toNat_one, not_true_eq_false, false_or, or_self, Nat.reduceGT, Option.isSome_some, Bool.and_self, Nat.zero_add, Nat.mul_one, List.length_map, List.take_length, Int.cast_ofNat_Int, Int.reduceLE, Int.reduceLT, Int.reduceGE, Int.reduceGT, Int.reduceEq, Int.reduceNe, Int.le_refl, Nat.le_refl, Nat.reduceAdd, ne_eq, not_false_eq_true, reduceCtorEq, beq_true, beq_false, BEq.rfl, Bool.not_true, Bool.not_false, decide_true, decide_false, exists_prop, WordG.av, WordG.cs]
  refine callX_by (ref_calls 2 _) ?_
  rintro r hp2 ⟨rfl, rfl⟩
  simp only [go_sem, Int.natCast_nonneg, Nat.reduceEqDiff, Nat.reduceAdd, Nat.reduceSub, Nat.reduceLT, Nat.reduceMul, Nat.reduceBEq, Nat.reduceLeDiff, ↓reduceIte, Int.toNat_natCast, Int.reduceToNat, Int.toNat_zero, Int.toNat_one, not_true_eq_false, false_or, or_self, Nat.reduceGT, Option.isSome_some, Bool.and_self, Nat.zero_add, Nat.mul_one, List.length_map, List.take_length, Int.cast_ofNat_Int, Int.reduceLE, Int.reduceLT, Int.reduceGE, Int.reduceGT, Int.reduceEq, Int.reduceNe, Int.le_refl, Nat.le_refl, Nat.reduceAdd, ne_eq, not_false_eq_true, reduceCtorEq, beq_true, beq_false, BEq.rfl, Bool.not_true, Bool.not_false, decide_true, decide_false, exists_prop, WordG.av, WordG.cs]
  refine ⟨rfl, by simp, fun hd3 => ?_⟩
  refine callX_by (halloc_calls (Hp.le_addSp _ _) exB_ok 3 hd3 [⟨true, 2⟩, ⟨true, 2⟩]) ?_
  rintro r hp3 ⟨c3, s3, o3, rfl, rfl⟩
  rw [exC_g]
  simp only [go_sem, Int.natCast_nonneg, Nat.reduceEqDiff, Nat.reduceAdd, Nat.reduceSub, Nat.reduceLT, Nat.reduceMul, Nat.reduceBEq, Nat.reduceLeDiff, ↓reduceIte, Int.toNat_natCast, Int.reduceToNat, Int.toNat_zero, Int.toNat_one, not_true_eq_false, false_or, or_self, Nat.reduceGT, Option.isSome_some, Bool.and_self, Nat.zero_add, Nat.mul_one, List.length_map, List.take_length, Int.cast_ofNat_Int, Int.reduceLE, Int.reduceLT, Int.reduceGE, Int.reduceGT, Int.reduceEq, Int.reduceNe, Int.le_refl, Nat.le_refl, Nat.reduceAdd, ne_eq, not_false_eq_true, reduceCtorEq, beq_true, beq_false, BEq.rfl, Bool.not_true, Bool.not_false, decide_true, decide_false, exists_prop, exC_e, iv]
  refine callX_by (num_calls 0 _) ?_
  rintro r hp2 ⟨rfl, rfl⟩
  simp only [go_sem, Int.natCast_nonneg, Nat.reduceEqDiff, Nat.reduceAdd, Nat.reduceSub, Nat.reduceLT, Nat.reduceMul, Nat.reduceBEq, Nat.reduceLeDiff, ↓reduceIte, Int.toNat_natCast, Int.reduceToNat, Int.toNat_zero, Int.toNat_one, not_true_eq_false, false_or, or_self, Nat.reduceGT, Option.isSome_some, Bool.and_self, Nat.zero_add, Nat.mul_one, List.length_map, List.take_length, Int.cast_ofNat_Int, Int.reduceLE, Int.reduceLT, Int.reduceGE, Int.reduceGT, Int.reduceEq, Int.reduceNe, Int.le_refl, Nat.le_refl, Nat.reduceAdd, ne_eq, not_false_eq_true, reduceCtorEq, beq_true, beq_false, BEq.rfl, Bool.not_true, Bool.not_false, decide_true, decide_false, exists_prop, WordG.av, WordG.cs]
  refine callX_by (num_calls 0 _) ?_
  rintro r hp2 ⟨rfl, rfl⟩
  simp only [go_sem, Int.natCast_nonneg, Nat.reduceEqDiff, Nat.reduceAdd, Nat.reduceSub, Nat.reduceLT, Nat.reduceMul, Nat.reduceBEq, Nat.reduceLeDiff, ↓reduceIte, Int.toNat_natCast, Int.reduceToNat, Int.toNat_zero, Int.toNat_one, not_true_eq_false, false_or, or_self, Nat.reduceGT, Option.isSome_some, Bool.and_self, Nat.zero_add, Nat.mul_one, List.length_map, List.take_length, Int.cast_ofNat_Int, Int.reduceLE, Int.reduceLT, Int.reduceGE, Int.reduceGT, Int.reduceEq, Int.reduceNe, Int.le_refl, Nat.le_refl, Nat.reduceAdd, ne_eq, not_false_eq_true, reduceCtorEq, beq_true, beq_false, BEq.rfl, Bool.not_true, Bool.not_false, decide_true, decide_false, exists_prop, WordG.av, WordG.cs]
  refine ⟨rfl, by simp, fun hd4 => ?_⟩
  refine callX_by (halloc_calls (Hp.le_addSp _ _) exC_ok 0 hd4 [⟨false, 0⟩, ⟨false, 0⟩]) ?_
  rintro r hp3 ⟨c4, s4, o4, rfl, rfl⟩
  rw [exD_g]
  simp only [go_sem, Int.natCast_nonneg, Nat.reduceEqDiff, Nat.reduceAdd, Nat.reduceSub, Nat.reduceLT, Nat.reduceMul, Nat.reduceBEq, Nat.reduceLeDiff, ↓reduceIte, Int.toNat_natCast, Int.reduceToNat, Int.toNat_zero, Int.toNat_one, not_true_eq_false, false_or, or_self, Nat.reduceGT, Option.isSome_some, Bool.and_self, Nat.zero_add, Nat.mul_one, List.length_map, List.take_length, Int.cast_ofNat_Int, Int.reduceLE, Int.reduceLT, Int.reduceGE, Int.reduceGT, Int.reduceEq, Int.reduceNe, Int.le_refl, Nat.le_refl, Nat.reduceAdd, ne_eq, not_false_eq_true, reduceCtorEq, beq_true, beq_false, BEq.rfl, Bool.not_true, Bool.not_false, decide_true, decide_false, exists_prop, exD_e, iv]
  refine callX_by (ref_calls 2 _) ?_
  rintro r hp2 ⟨rfl, rfl⟩
  simp only [go_sem, Int.natCast_nonneg, Nat.reduceEqDiff, Nat.reduceAdd, Nat.reduceSub, Nat.reduceLT, Nat.reduceMul, Nat.reduceBEq, Nat.reduceLeDiff, ↓reduceIte, Int.toNat_natCast, Int.reduceToNat, Int.toNat_zero, Int.toNat_one, not_true_eq_false, false_or, or_self, Nat.reduceGT, Option.isSome_some, Bool.and_self, Nat.zero_add, Nat.mul_one, List.length_map, List.take_length, Int.cast_ofNat_Int, Int.reduceLE, Int.reduceLT, Int.reduceGE, Int.reduceGT, Int.reduceEq, Int.reduceNe, Int.le_refl, Nat.le_refl, Nat.reduceAdd, ne_eq, not_false_eq_true, reduceCtorEq, beq_true, beq_false, BEq.rfl, Bool.not_true, Bool.not_false, decide_true, decide_false, exists_prop, WordG.av, WordG.cs]
  refine ⟨rfl, by simp, fun hd5 => ?_⟩
  refine callX_by (hcollect_calls (Hp.le_addSp _ _) exC_ok hd5 [⟨true, 2⟩] (by decide)) ?_
  rintro r hp3 (⟨hv, -, -⟩ | ⟨-, h5, c5, s5, o5, rfl, rfl⟩)
  · rw [ex_v] at hv; cases hv
  rw [exE_g, exE_r]
  simp only [go_sem, Int.natCast_nonneg, Nat.reduceEqDiff, Nat.reduceAdd, Nat.reduceSub, Nat.reduceLT, Nat.reduceMul, Nat.reduceBEq, Nat.reduceLeDiff, ↓reduceIte, Int.toNat_natCast, Int.reduceToNat, Int.toNat_zero, Int.toNat_one, not_true_eq_false, false_or, or_self, Nat.reduceGT, Option.isSome_some, Bool.and_self, Nat.zero_add, Nat.mul_one, List.length_map, List.take_length, Int.cast_ofNat_Int, Int.reduceLE, Int.reduceLT, Int.reduceGE, Int.reduceGT, Int.reduceEq, Int.reduceNe, Int.le_refl, Nat.le_refl, Nat.reduceAdd, ne_eq, not_false_eq_true, reduceCtorEq, beq_true, beq_false, BEq.rfl, Bool.not_true, Bool.not_false, decide_true, decide_false, exists_prop, iv]
  refine callX_by (hfields_calls (Hp.le_refl _) exE_ok 0) ?_
  rintro r hp3 ⟨⟨h6, rfl⟩, rfl⟩
  simp only [go_sem, Int.natCast_nonneg, Nat.reduceEqDiff, Nat.reduceAdd, Nat.reduceSub, Nat.reduceLT, Nat.reduceMul, Nat.reduceBEq, Nat.reduceLeDiff, ↓reduceIte, Int.toNat_natCast, Int.reduceToNat, Int.toNat_zero, Int.toNat_one, not_true_eq_false, false_or, or_self, Nat.reduceGT, Option.isSome_some, Bool.and_self, Nat.zero_add, Nat.mul_one, List.length_map, List.take_length, Int.cast_ofNat_Int, Int.reduceLE, Int.reduceLT, Int.reduceGE, Int.reduceGT, Int.reduceEq, Int.reduceNe, Int.le_refl, Nat.le_refl, Nat.reduceAdd, ne_eq, not_false_eq_true, reduceCtorEq, beq_true, beq_false, BEq.rfl, Bool.not_true, Bool.not_false, decide_true, decide_false, exists_prop, exE_h, exE_f, iv, ex_n0, ex_nA, ex_nB]
  refine callX_by (ref_calls 0 _) ?_
  rintro r hp2 ⟨rfl, rfl⟩
  simp only [go_sem, Int.natCast_nonneg, Nat.reduceEqDiff, Nat.reduceAdd, Nat.reduceSub, Nat.reduceLT, Nat.reduceMul, Nat.reduceBEq, Nat.reduceLeDiff, ↓reduceIte, Int.toNat_natCast, Int.reduceToNat, Int.toNat_zero, Int.toNat_one, not_true_eq_false, false_or, or_self, Nat.reduceGT, Option.isSome_some, Bool.and_self, Nat.zero_add, Nat.mul_one, List.length_map, List.take_length, Int.cast_ofNat_Int, Int.reduceLE, Int.reduceLT, Int.reduceGE, Int.reduceGT, Int.reduceEq, Int.reduceNe, Int.le_refl, Nat.le_refl, Nat.reduceAdd, ne_eq, not_false_eq_true, reduceCtorEq, beq_true, beq_false, BEq.rfl, Bool.not_true, Bool.not_false, decide_true, decide_false, exists_prop, WordG.av, WordG.cs]
  refine ⟨rfl, by simp, fun hd6 => ?_⟩
  refine callX_by (words_calls h5 hd6 [⟨true, 0⟩] [⟨true, 0⟩] _) ?_
  rintro r hp3 ⟨rfl, rfl⟩
  have hw1 : sameL eqW [(⟨true, 0⟩ : WordG)] [⟨true, 0⟩] = true := (words_iff _ _).2 rfl
  simp only [go_sem, Int.natCast_nonneg, Nat.reduceEqDiff, Nat.reduceAdd, Nat.reduceSub, Nat.reduceLT, Nat.reduceMul, Nat.reduceBEq, Nat.reduceLeDiff, ↓reduceIte, Int.toNat_natCast, Int.reduceToNat, Int.toNat_zero, Int.toNat_one, not_true_eq_false, false_or, or_self, Nat.reduceGT, Option.isSome_some, Bool.and_self, Nat.zero_add, Nat.mul_one, List.length_map, List.take_length, Int.cast_ofNat_Int, Int.reduceLE, Int.reduceLT, Int.reduceGE, Int.reduceGT, Int.reduceEq, Int.reduceNe, Int.le_refl, Nat.le_refl, Nat.reduceAdd, ne_eq, not_false_eq_true, reduceCtorEq, beq_true, beq_false, BEq.rfl, Bool.not_true, Bool.not_false, decide_true, decide_false, exists_prop, hw1]
  refine callX_by (ref_calls 3 _) ?_
  rintro r hp2 ⟨rfl, rfl⟩
  simp only [go_sem, Int.natCast_nonneg, Nat.reduceEqDiff, Nat.reduceAdd, Nat.reduceSub, Nat.reduceLT, Nat.reduceMul, Nat.reduceBEq, Nat.reduceLeDiff, ↓reduceIte, Int.toNat_natCast, Int.reduceToNat, Int.toNat_zero, Int.toNat_one, not_true_eq_false, false_or, or_self, Nat.reduceGT, Option.isSome_some, Bool.and_self, Nat.zero_add, Nat.mul_one, List.length_map, List.take_length, Int.cast_ofNat_Int, Int.reduceLE, Int.reduceLT, Int.reduceGE, Int.reduceGT, Int.reduceEq, Int.reduceNe, Int.le_refl, Nat.le_refl, Nat.reduceAdd, ne_eq, not_false_eq_true, reduceCtorEq, beq_true, beq_false, BEq.rfl, Bool.not_true, Bool.not_false, decide_true, decide_false, exists_prop, WordG.av, WordG.cs]
  refine callX_by (num_calls 6 _) ?_
  rintro r hp2 ⟨rfl, rfl⟩
  simp only [go_sem, Int.natCast_nonneg, Nat.reduceEqDiff, Nat.reduceAdd, Nat.reduceSub, Nat.reduceLT, Nat.reduceMul, Nat.reduceBEq, Nat.reduceLeDiff, ↓reduceIte, Int.toNat_natCast, Int.reduceToNat, Int.toNat_zero, Int.toNat_one, not_true_eq_false, false_or, or_self, Nat.reduceGT, Option.isSome_some, Bool.and_self, Nat.zero_add, Nat.mul_one, List.length_map, List.take_length, Int.cast_ofNat_Int, Int.reduceLE, Int.reduceLT, Int.reduceGE, Int.reduceGT, Int.reduceEq, Int.reduceNe, Int.le_refl, Nat.le_refl, Nat.reduceAdd, ne_eq, not_false_eq_true, reduceCtorEq, beq_true, beq_false, BEq.rfl, Bool.not_true, Bool.not_false, decide_true, decide_false, exists_prop, WordG.av, WordG.cs]
  refine ⟨rfl, by simp, fun hd7 => ?_⟩
  refine callX_by (words_calls h6 hd7 [⟨true, 3⟩, ⟨false, 6⟩] [⟨true, 3⟩, ⟨false, 6⟩] _) ?_
  rintro r hp3 ⟨rfl, rfl⟩
  have hw2 : sameL eqW [(⟨true, 3⟩ : WordG), ⟨false, 6⟩] [⟨true, 3⟩, ⟨false, 6⟩] = true := (words_iff _ _).2 rfl
  simp only [go_sem, Int.natCast_nonneg, Nat.reduceEqDiff, Nat.reduceAdd, Nat.reduceSub, Nat.reduceLT, Nat.reduceMul, Nat.reduceBEq, Nat.reduceLeDiff, ↓reduceIte, Int.toNat_natCast, Int.reduceToNat, Int.toNat_zero, Int.toNat_one, not_true_eq_false, false_or, or_self, Nat.reduceGT, Option.isSome_some, Bool.and_self, Nat.zero_add, Nat.mul_one, List.length_map, List.take_length, Int.cast_ofNat_Int, Int.reduceLE, Int.reduceLT, Int.reduceGE, Int.reduceGT, Int.reduceEq, Int.reduceNe, Int.le_refl, Nat.le_refl, Nat.reduceAdd, ne_eq, not_false_eq_true, reduceCtorEq, beq_true, beq_false, BEq.rfl, Bool.not_true, Bool.not_false, decide_true, decide_false, exists_prop, hw2]
  refine callX_by (hused_calls (hp := hp) (hb := b) (size := 10) (c := c5) (s := s5) (o := o5) (G := exE) (l2 := hp.sp) ⟨fun _ _ h => h, fun _ _ h => h, (List.sublist_cons_self _ _).trans (List.sublist_cons_self _ _), fun _ h => h⟩ exE_ok) ?_
  rintro r hp3 ⟨rfl, rfl⟩
  simp only [go_sem, Int.natCast_nonneg, Nat.reduceEqDiff, Nat.reduceAdd, Nat.reduceSub, Nat.reduceLT, Nat.reduceMul, Nat.reduceBEq, Nat.reduceLeDiff, ↓reduceIte, Int.toNat_natCast, Int.reduceToNat, Int.toNat_zero, Int.toNat_one, not_true_eq_false, false_or, or_self, Nat.reduceGT, Option.isSome_some, Bool.and_self, Nat.zero_add, Nat.mul_one, List.length_map, List.take_length, Int.cast_ofNat_Int, Int.reduceLE, Int.reduceLT, Int.reduceGE, Int.reduceGT, Int.reduceEq, Int.reduceNe, Int.le_refl, Nat.le_refl, Nat.reduceAdd, ne_eq, not_false_eq_true, reduceCtorEq, beq_true, beq_false, BEq.rfl, Bool.not_true, Bool.not_false, decide_true, decide_false, exists_prop, iv, ex_nE]
  exact ret_le (hp' := hp) (hhp_le hfr.1) ⟨rfl, rfl⟩
end Go.Proofs.Ytfdlfcafcjhpmaa
/- Heaps: the law's few and read. -/
set_option linter.unusedSimpArgs false
set_option linter.unusedVariables false
set_option maxRecDepth 20000
set_option maxHeartbeats 4000000
namespace Go.Proofs.Ytfdlfcafcjhpmaa
open Go.AL

theorem few_calls (h : Value) (l : List OpG) (hp : Hp) : ACalls Try.prog 15 [opsAV h l] hp (fun r hp' => (∃ b, r = .v (.bool b)) ∧ hp' = hp) := by
  refine acalls_fit (callable_of Try.func15 (by decide +kernel)) fun hfit => ?_
  have hl : l.length ≤ maxLen := by have := hfit.1; simp only [opsAV, AV.fit, List.length_map] at this; exact this.1
  refine acalls_of Try.func15 rfl (by decide +kernel) (awp_sound (mu := [4]) _ _ _ ?_)
  simp only [go_sem, Int.natCast_nonneg, Nat.reduceEqDiff, Nat.reduceAdd, Nat.reduceSub, Nat.reduceLT, Nat.reduceMul, Nat.reduceBEq, Nat.reduceLeDiff, ↓reduceIte, Int.toNat_natCast, Int.reduceToNat, Int.toNat_zero, Int.toNat_one, not_true_eq_false, false_or, or_self, Nat.reduceGT, Option.isSome_some, Bool.and_self, Nat.zero_add, Nat.mul_one, List.length_map, List.take_length, Int.cast_ofNat_Int, Int.reduceLE, Int.reduceLT, Int.reduceGE, Int.reduceGT, Int.reduceEq, Int.reduceNe, Int.le_refl, Nat.le_refl, Nat.reduceAdd, ne_eq, not_false_eq_true, reduceCtorEq, beq_true, beq_false, BEq.rfl, Bool.not_true, Bool.not_false, decide_true, decide_false, exists_prop, opsAV]
  refine aw_loopX 25 (fun k : Nat => [(0, .lst 4 h (l.map OpG.av)), (5, .lst 4 h (l.map OpG.av)), (6, .v (.int .i64 l.length)), (7, .v (.int .i64 k))])
    (fun _ => hp) (fun k => k ≤ l.length) (fun k => l.length - k) 0 (Nat.zero_le _) (le_mkSl rfl (Hp.le_refl _) (by simp [go_sem])) ?_
  intro k hk
  refine awp_sound (mu := [4]) _ _ _ ?_
  simp only [go_sem, Int.natCast_nonneg, Nat.reduceEqDiff, Nat.reduceAdd, Nat.reduceSub, Nat.reduceLT, Nat.reduceMul, Nat.reduceBEq, Nat.reduceLeDiff, ↓reduceIte, Int.toNat_natCast, Int.reduceToNat, Int.toNat_zero, Int.toNat_one, not_true_eq_false, false_or, or_self, Nat.reduceGT, Option.isSome_some, Bool.and_self, Nat.zero_add, Nat.mul_one, List.length_map, List.take_length, Int.cast_ofNat_Int, Int.reduceLE, Int.reduceLT, Int.reduceGE, Int.reduceGT, Int.reduceEq, Int.reduceNe, Int.le_refl, Nat.le_refl, Nat.reduceAdd, ne_eq, not_false_eq_true, reduceCtorEq, beq_true, beq_false, BEq.rfl, Bool.not_true, Bool.not_false, decide_true, decide_false, exists_prop]
  refine brK_mk (fun h1 => ?_) (fun h1 => ?_) <;> simp only [go_sem, Int.natCast_nonneg, Nat.reduceEqDiff, Nat.reduceAdd, Nat.reduceSub, Nat.reduceLT, Nat.reduceMul, Nat.reduceBEq, Nat.reduceLeDiff, ↓reduceIte, Int.toNat_natCast, Int.reduceToNat, Int.toNat_zero, Int.toNat_one, not_true_eq_false, false_or, or_self, Nat.reduceGT, Option.isSome_some, Bool.and_self, Nat.zero_add, Nat.mul_one, List.length_map, List.take_length, Int.cast_ofNat_Int, Int.reduceLE, Int.reduceLT, Int.reduceGE, Int.reduceGT, Int.reduceEq, Int.reduceNe, Int.le_refl, Nat.le_refl, Nat.reduceAdd, ne_eq, not_false_eq_true, reduceCtorEq, beq_true, beq_false, BEq.rfl, Bool.not_true, Bool.not_false, decide_true, decide_false, exists_prop, h1]
  · have hk' : k < l.length := by simpa using h1
    obtain ⟨x, hx⟩ := some_at' l k hk'
    have hwu := upW k _ hk' hl
    simp only [go_sem, Int.natCast_nonneg, Nat.reduceEqDiff, Nat.reduceAdd, Nat.reduceSub, Nat.reduceLT, Nat.reduceMul, Nat.reduceBEq, Nat.reduceLeDiff, ↓reduceIte, Int.toNat_natCast, Int.reduceToNat, Int.toNat_zero, Int.toNat_one, not_true_eq_false, false_or, or_self, Nat.reduceGT, Option.isSome_some, Bool.and_self, Nat.zero_add, Nat.mul_one, List.length_map, List.take_length, Int.cast_ofNat_Int, Int.reduceLE, Int.reduceLT, Int.reduceGE, Int.reduceGT, Int.reduceEq, Int.reduceNe, Int.le_refl, Nat.le_refl, Nat.reduceAdd, ne_eq, not_false_eq_true, reduceCtorEq, beq_true, beq_false, BEq.rfl, Bool.not_true, Bool.not_false, decide_true, decide_false, exists_prop, map_at' OpG.av _ _ _ hx, OpG.av, OpG.cs, iv, wordsAV]
    intro b4 hb4
    have hfin : hp.le (hp.setBlk b4 34 [.v (.int .i64 x.d), .v (.int .i64 x.a), .v (.int .i64 x.i), .lst 2 x.h (x.ws.map WordG.av)]) := le_fresh (l := hp.sp) hb4.1 rfl rfl (List.Sublist.refl _) rfl
    refine brK_mk (fun h2 => ?_) (fun h2 => ?_) <;> simp only [go_sem, Int.natCast_nonneg, Nat.reduceEqDiff, Nat.reduceAdd, Nat.reduceSub, Nat.reduceLT, Nat.reduceMul, Nat.reduceBEq, Nat.reduceLeDiff, ↓reduceIte, Int.toNat_natCast, Int.reduceToNat, Int.toNat_zero, Int.toNat_one, not_true_eq_false, false_or, or_self, Nat.reduceGT, Option.isSome_some, Bool.and_self, Nat.zero_add, Nat.mul_one, List.length_map, List.take_length, Int.cast_ofNat_Int, Int.reduceLE, Int.reduceLT, Int.reduceGE, Int.reduceGT, Int.reduceEq, Int.reduceNe, Int.le_refl, Nat.le_refl, Nat.reduceAdd, ne_eq, not_false_eq_true, reduceCtorEq, beq_true, beq_false, BEq.rfl, Bool.not_true, Bool.not_false, decide_true, decide_false, exists_prop, h2]
    · refine brK_mk (fun h3 => ?_) (fun h3 => ?_) <;> simp only [go_sem, Int.natCast_nonneg, Nat.reduceEqDiff, Nat.reduceAdd, Nat.reduceSub, Nat.reduceLT, Nat.reduceMul, Nat.reduceBEq, Nat.reduceLeDiff, ↓reduceIte, Int.toNat_natCast, Int.reduceToNat, Int.toNat_zero, Int.toNat_one, not_true_eq_false, false_or, or_self, Nat.reduceGT, Option.isSome_some, Bool.and_self, Nat.zero_add, Nat.mul_one, List.length_map, List.take_length, Int.cast_ofNat_Int, Int.reduceLE, Int.reduceLT, Int.reduceGE, Int.reduceGT, Int.reduceEq, Int.reduceNe, Int.le_refl, Nat.le_refl, Nat.reduceAdd, ne_eq, not_false_eq_true, reduceCtorEq, beq_true, beq_false, BEq.rfl, Bool.not_true, Bool.not_false, decide_true, decide_false, exists_prop, h3]
      · exact ret_le hfin ⟨⟨_, rfl⟩, rfl⟩
      · simp only [hwu]
        exact ⟨k + 1, by omega, by omega, le_mkSl rfl (by simp only [go_sem, Int.natCast_nonneg, Nat.reduceEqDiff, Nat.reduceAdd, Nat.reduceSub, Nat.reduceLT, Nat.reduceMul, Nat.reduceBEq, Nat.reduceLeDiff, ↓reduceIte, Int.toNat_natCast, Int.reduceToNat, Int.toNat_zero, Int.toNat_one, not_true_eq_false, false_or, or_self, Nat.reduceGT, Option.isSome_some, Bool.and_self, Nat.zero_add, Nat.mul_one, List.length_map, List.take_length, Int.cast_ofNat_Int, Int.reduceLE, Int.reduceLT, Int.reduceGE, Int.reduceGT, Int.reduceEq, Int.reduceNe, Int.le_refl, Nat.le_refl, Nat.reduceAdd, ne_eq, not_false_eq_true, reduceCtorEq, beq_true, beq_false, BEq.rfl, Bool.not_true, Bool.not_false, decide_true, decide_false, exists_prop]; exact hfin) (by simp [go_sem, hwu])⟩
    · simp only [hwu]
      exact ⟨k + 1, by omega, by omega, le_mkSl rfl (by simp only [go_sem, Int.natCast_nonneg, Nat.reduceEqDiff, Nat.reduceAdd, Nat.reduceSub, Nat.reduceLT, Nat.reduceMul, Nat.reduceBEq, Nat.reduceLeDiff, ↓reduceIte, Int.toNat_natCast, Int.reduceToNat, Int.toNat_zero, Int.toNat_one, not_true_eq_false, false_or, or_self, Nat.reduceGT, Option.isSome_some, Bool.and_self, Nat.zero_add, Nat.mul_one, List.length_map, List.take_length, Int.cast_ofNat_Int, Int.reduceLE, Int.reduceLT, Int.reduceGE, Int.reduceGT, Int.reduceEq, Int.reduceNe, Int.le_refl, Nat.le_refl, Nat.reduceAdd, ne_eq, not_false_eq_true, reduceCtorEq, beq_true, beq_false, BEq.rfl, Bool.not_true, Bool.not_false, decide_true, decide_false, exists_prop]; exact hfin) (by simp [go_sem, hwu])⟩
  · exact ret_same ⟨⟨_, rfl⟩, rfl⟩

def ReadR (size : Int) (G : List ObjG) (hp : Hp) (r : AV) (hp' : Hp) : Prop := (∃ h' l', r = .tup [modelAV size h' l', .v (.bool true)] ∧ MR G l') ∧ hp' = hp
theorem read_calls {G : List ObjG} {hb : Nat} {size : Int} {hc hs ho : Value} {hp : Hp} (hblk : hp.blk hb = some (105, HeapV size hc hs ho (spOf G))) (hok : Okay size G) :
    ACalls Try.prog 23 [hptrAV hb, iv size] hp (ReadR size G hp) := by
  have hN := hok.n
  have hGl := len_endO G
  have hc1 : (spOf G).c.length = endO G := cellsO_len G
  have ho1 : (spOf G).o.length = G.length := addrsF_len 0 G
  have ho2 : (addrsF 0 G).length = G.length := addrsF_len 0 G
  refine acalls_addNil 111 3 ?_
  refine acalls_of Try.func23 rfl (by decide +kernel) (awp_sound (mu := [4, 6, 49]) _ _ _ ?_)
  simp only [go_sem, Int.natCast_nonneg, Nat.reduceEqDiff, Nat.reduceAdd, Nat.reduceSub, Nat.reduceLT, Nat.reduceMul, Nat.reduceBEq, Nat.reduceLeDiff, ↓reduceIte, Int.toNat_natCast, Int.reduceToNat, Int.toNat_zero, Int.toNat_one, not_true_eq_false, false_or, or_self, Nat.reduceGT, Option.isSome_some, Bool.and_self, Nat.zero_add, Nat.mul_one, List.length_map, List.take_length, Int.cast_ofNat_Int, Int.reduceLE, Int.reduceLT, Int.reduceGE, Int.reduceGT, Int.reduceEq, Int.reduceNe, Int.le_refl, Nat.le_refl, Nat.reduceAdd, ne_eq, not_false_eq_true, reduceCtorEq, beq_true, beq_false, BEq.rfl, Bool.not_true, Bool.not_false, decide_true, decide_false, exists_prop, hptrAV, iv]
  intro b4 hb4 b6 hb6
  have n46 : b4 ≠ b6 := by rintro rfl; have := hb6.1; simp [Hp.setBlk, Hp.setSp] at this
  have hb6n : hp.blk b6 = none := by have := hb6.1; simpa [Hp.setBlk, Hp.setSp, Ne.symm n46] using this
  have n4 : b4 ≠ hb := by rintro rfl; have := hb4.1; have h2 : hp.blk b4 = none := this; rw [h2] at hblk; cases hblk
  have n6 : b6 ≠ hb := by rintro rfl; rw [hb6n] at hblk; cases hblk
  refine callX_by (objectsH_calls (hb := hb) (size := size) (hc := hc) (hs := hs) (ho := ho) (g := spOf G) (by simp [Hp.setBlk, Hp.setSp, Ne.symm n4, Ne.symm n6, hblk]) (by omega)) ?_
  rintro r hp1 ⟨⟨h16, rfl⟩, rfl⟩
  simp only [go_sem, Int.natCast_nonneg, Nat.reduceEqDiff, Nat.reduceAdd, Nat.reduceSub, Nat.reduceLT, Nat.reduceMul, Nat.reduceBEq, Nat.reduceLeDiff, ↓reduceIte, Int.toNat_natCast, Int.reduceToNat, Int.toNat_zero, Int.toNat_one, not_true_eq_false, false_or, or_self, Nat.reduceGT, Option.isSome_some, Bool.and_self, Nat.zero_add, Nat.mul_one, List.length_map, List.take_length, Int.cast_ofNat_Int, Int.reduceLE, Int.reduceLT, Int.reduceGE, Int.reduceGT, Int.reduceEq, Int.reduceNe, Int.le_refl, Nat.le_refl, Nat.reduceAdd, ne_eq, not_false_eq_true, reduceCtorEq, beq_true, beq_false, BEq.rfl, Bool.not_true, Bool.not_false, decide_true, decide_false, exists_prop, intsAV, List.length_map, ho1]
  refine castBlk_by b6 31 [.v (.int .i64 size), .v (.slice none 0 0)] [.v (.int .i64 size), .lst 3 (.slice none 0 0) []] (by simp [go_sem]) rfl (fun m _ => ⟨trivial, (Cast.nil 3).2 m trivial, trivial⟩) ?_
  simp only [go_sem, Int.natCast_nonneg, Nat.reduceEqDiff, Nat.reduceAdd, Nat.reduceSub, Nat.reduceLT, Nat.reduceMul, Nat.reduceBEq, Nat.reduceLeDiff, ↓reduceIte, Int.toNat_natCast, Int.reduceToNat, Int.toNat_zero, Int.toNat_one, not_true_eq_false, false_or, or_self, Nat.reduceGT, Option.isSome_some, Bool.and_self, Nat.zero_add, Nat.mul_one, List.length_map, List.take_length, Int.cast_ofNat_Int, Int.reduceLE, Int.reduceLT, Int.reduceGE, Int.reduceGT, Int.reduceEq, Int.reduceNe, Int.le_refl, Nat.le_refl, Nat.reduceAdd, ne_eq, not_false_eq_true, reduceCtorEq, beq_true, beq_false, BEq.rfl, Bool.not_true, Bool.not_false, decide_true, decide_false, exists_prop, Hp.set_set]
  refine aw_loopX 57 (fun x : Nat × Value × List RObj => [(0, hptrAV hb), (4, .v (.pointer (some ⟨b4, 0, none⟩))), (6, .v (.pointer (some ⟨b6, 0, none⟩))), (16, intsAV h16 (spOf G).o), (17, .v (.int .i64 G.length)), (18, .v (.int .i64 x.1))])
    (fun x => ((hp.setBlk b4 31 [.v (.int .i64 0), .v (.slice none 0 0)]).setBlk b6 31 [.v (.int .i64 size), objsAV x.2.1 x.2.2]).setSp ((111, 3, x.2.1) :: hp.sp)) (fun x => x.1 ≤ G.length ∧ MR (G.take x.1) x.2.2) (fun x => G.length - x.1) (0, .slice none 0 0, []) ⟨Nat.zero_le _, rfl⟩
    (le_mkSl rfl (by simp only [go_sem, Int.natCast_nonneg, Nat.reduceEqDiff, Nat.reduceAdd, Nat.reduceSub, Nat.reduceLT, Nat.reduceMul, Nat.reduceBEq, Nat.reduceLeDiff, ↓reduceIte, Int.toNat_natCast, Int.reduceToNat, Int.toNat_zero, Int.toNat_one, not_true_eq_false, false_or, or_self, Nat.reduceGT, Option.isSome_some, Bool.and_self, Nat.zero_add, Nat.mul_one, List.length_map, List.take_length, Int.cast_ofNat_Int, Int.reduceLE, Int.reduceLT, Int.reduceGE, Int.reduceGT, Int.reduceEq, Int.reduceNe, Int.le_refl, Nat.le_refl, Nat.reduceAdd, ne_eq, not_false_eq_true, reduceCtorEq, beq_true, beq_false, BEq.rfl, Bool.not_true, Bool.not_false, decide_true, decide_false, exists_prop]; exact ⟨fun _ _ h => h, fun _ _ h => h, List.Sublist.refl _, fun _ h => h⟩) (by simp [go_sem, intsAV, objsAV, hptrAV])) ?_
  rintro ⟨k, ho', l'⟩ ⟨hk, hm'⟩
  simp only at hk hm'
  have hl'len := mr_len hm'
  have hl'k : l'.length ≤ k := by rw [hl'len]; simp; omega
  have hblkX : (((hp.setBlk b4 31 [.v (.int .i64 0), .v (.slice none 0 0)]).setBlk b6 31 [.v (.int .i64 size), objsAV ho' l']).setSp ((111, 3, ho') :: hp.sp)).blk hb = some (105, HeapV size hc hs ho (spOf G)) := by simp [Hp.setBlk, Hp.setSp, Ne.symm n4, Ne.symm n6, hblk]
  refine awp_sound (mu := [4, 6, 49]) _ _ _ ?_
  simp only [go_sem, Int.natCast_nonneg, Nat.reduceEqDiff, Nat.reduceAdd, Nat.reduceSub, Nat.reduceLT, Nat.reduceMul, Nat.reduceBEq, Nat.reduceLeDiff, ↓reduceIte, Int.toNat_natCast, Int.reduceToNat, Int.toNat_zero, Int.toNat_one, not_true_eq_false, false_or, or_self, Nat.reduceGT, Option.isSome_some, Bool.and_self, Nat.zero_add, Nat.mul_one, List.length_map, List.take_length, Int.cast_ofNat_Int, Int.reduceLE, Int.reduceLT, Int.reduceGE, Int.reduceGT, Int.reduceEq, Int.reduceNe, Int.le_refl, Nat.le_refl, Nat.reduceAdd, ne_eq, not_false_eq_true, reduceCtorEq, beq_true, beq_false, BEq.rfl, Bool.not_true, Bool.not_false, decide_true, decide_false, exists_prop, intsAV, hptrAV]
  refine brK_mk (fun h1 => ?_) (fun h1 => ?_) <;> simp only [go_sem, Int.natCast_nonneg, Nat.reduceEqDiff, Nat.reduceAdd, Nat.reduceSub, Nat.reduceLT, Nat.reduceMul, Nat.reduceBEq, Nat.reduceLeDiff, ↓reduceIte, Int.toNat_natCast, Int.reduceToNat, Int.toNat_zero, Int.toNat_one, not_true_eq_false, false_or, or_self, Nat.reduceGT, Option.isSome_some, Bool.and_self, Nat.zero_add, Nat.mul_one, List.length_map, List.take_length, Int.cast_ofNat_Int, Int.reduceLE, Int.reduceLT, Int.reduceGE, Int.reduceGT, Int.reduceEq, Int.reduceNe, Int.le_refl, Nat.le_refl, Nat.reduceAdd, ne_eq, not_false_eq_true, reduceCtorEq, beq_true, beq_false, BEq.rfl, Bool.not_true, Bool.not_false, decide_true, decide_false, exists_prop, h1]
  · have hk' : k < G.length := by simpa using h1
    obtain ⟨ob, hob⟩ := some_at' G k hk'
    have hsplit : G = G.take k ++ ob :: G.drop (k + 1) := by rw [← dropAt hob, List.take_append_drop]
    have hadr : (spOf G).o[k]? = some ((endO (G.take k) : Nat) : Int) := by
      have := addrs_at (G.take k) ob (G.drop (k + 1))
      rw [← hsplit, List.length_take, Nat.min_eq_left hk] at this
      exact this
    have hat : objAt G ((endO (G.take k) : Nat) : Int) = some ob := by
      have := objF_at (G.take k) ob (G.drop (k + 1)) 0
      rw [← hsplit, Nat.zero_add] at this
      exact this
    have hhas : hasL (spOf G).s ((endO (G.take k) : Nat) : Int) = true := by rw [show (spOf G).s = sizesO G from rfl, has_obj, hat]; rfl
    obtain ⟨g1, g2, g3, g4, g5⟩ := obj_spec hat
    have hwu : IntKind.i64.wrap ((k : Int) + 1) = ((k + 1 : Nat) : Int) := IntWalk.i64_in _ (by omega)
    have htk : G.take (k + 1) = G.take k ++ [ob] := by rw [List.take_add_one, hob]; rfl
    simp only [go_sem, Int.natCast_nonneg, Nat.reduceEqDiff, Nat.reduceAdd, Nat.reduceSub, Nat.reduceLT, Nat.reduceMul, Nat.reduceBEq, Nat.reduceLeDiff, ↓reduceIte, Int.toNat_natCast, Int.reduceToNat, Int.toNat_zero, Int.toNat_one, not_true_eq_false, false_or, or_self, Nat.reduceGT, Option.isSome_some, Bool.and_self, Nat.zero_add, Nat.mul_one, List.length_map, List.take_length, Int.cast_ofNat_Int, Int.reduceLE, Int.reduceLT, Int.reduceGE, Int.reduceGT, Int.reduceEq, Int.reduceNe, Int.le_refl, Nat.le_refl, Nat.reduceAdd, ne_eq, not_false_eq_true, reduceCtorEq, beq_true, beq_false, BEq.rfl, Bool.not_true, Bool.not_false, decide_true, decide_false, exists_prop, map_at' iv _ _ _ hadr, iv]
    refine callX_by (tagH_calls hblkX ((endO (G.take k) : Nat) : Int) ⟨false, ob.tag⟩ (fun _ => g2)) ?_
    rintro r' hp1 ⟨rfl, rfl⟩
    simp only [go_sem, Int.natCast_nonneg, Nat.reduceEqDiff, Nat.reduceAdd, Nat.reduceSub, Nat.reduceLT, Nat.reduceMul, Nat.reduceBEq, Nat.reduceLeDiff, ↓reduceIte, Int.toNat_natCast, Int.reduceToNat, Int.toNat_zero, Int.toNat_one, not_true_eq_false, false_or, or_self, Nat.reduceGT, Option.isSome_some, Bool.and_self, Nat.zero_add, Nat.mul_one, List.length_map, List.take_length, Int.cast_ofNat_Int, Int.reduceLE, Int.reduceLT, Int.reduceGE, Int.reduceGT, Int.reduceEq, Int.reduceNe, Int.le_refl, Nat.le_refl, Nat.reduceAdd, ne_eq, not_false_eq_true, reduceCtorEq, beq_true, beq_false, BEq.rfl, Bool.not_true, Bool.not_false, decide_true, decide_false, exists_prop, hhas, iv, hptrAV]
    refine callX_by (fieldsH_calls hblkX (spOk G) (by omega) ((endO (G.take k) : Nat) : Int)) ?_
    rintro r' hp1 ⟨⟨h9, rfl⟩, rfl⟩
    simp only [go_sem, Int.natCast_nonneg, Nat.reduceEqDiff, Nat.reduceAdd, Nat.reduceSub, Nat.reduceLT, Nat.reduceMul, Nat.reduceBEq, Nat.reduceLeDiff, ↓reduceIte, Int.toNat_natCast, Int.reduceToNat, Int.toNat_zero, Int.toNat_one, not_true_eq_false, false_or, or_self, Nat.reduceGT, Option.isSome_some, Bool.and_self, Nat.zero_add, Nat.mul_one, List.length_map, List.take_length, Int.cast_ofNat_Int, Int.reduceLE, Int.reduceLT, Int.reduceGE, Int.reduceGT, Int.reduceEq, Int.reduceNe, Int.le_refl, Nat.le_refl, Nat.reduceAdd, ne_eq, not_false_eq_true, reduceCtorEq, beq_true, beq_false, BEq.rfl, Bool.not_true, Bool.not_false, decide_true, decide_false, exists_prop, hhas, iv, wordsAV, g5, objsAV]
    refine ⟨rfl, by simp, fun hd => ?_⟩
    refine append_by (a := objsAV ho' l') (b := .lst 3 hd [RObj.av ⟨((endO (G.take k) : Nat) : Int), ob.tag, h9, ob.fs⟩]) (l1 := [(111, 3, hd)]) (l2 := hp.sp) (h := ho') (h2 := hd) Try.k29 Try.s111 Try.y111 Try.z111 rfl (by decide)
      (by simp [go_sem, objsAV]) (Cast.refl _) (by simp [go_sem, RObj.av, RObj.cs]) (Cast.refl _) (by simp [go_sem]) (by simp [go_sem, RObj.av, RObj.cs]) (by simp [maxLen]; omega) (by simp; omega) (by simp [go_sem]) (fun h' => ?_)
    simp only [go_sem, Int.natCast_nonneg, Nat.reduceEqDiff, Nat.reduceAdd, Nat.reduceSub, Nat.reduceLT, Nat.reduceMul, Nat.reduceBEq, Nat.reduceLeDiff, ↓reduceIte, Int.toNat_natCast, Int.reduceToNat, Int.toNat_zero, Int.toNat_one, not_true_eq_false, false_or, or_self, Nat.reduceGT, Option.isSome_some, Bool.and_self, Nat.zero_add, Nat.mul_one, List.length_map, List.take_length, Int.cast_ofNat_Int, Int.reduceLE, Int.reduceLT, Int.reduceGE, Int.reduceGT, Int.reduceEq, Int.reduceNe, Int.le_refl, Nat.le_refl, Nat.reduceAdd, ne_eq, not_false_eq_true, reduceCtorEq, beq_true, beq_false, BEq.rfl, Bool.not_true, Bool.not_false, decide_true, decide_false, exists_prop, hwu]
    refine ⟨(k + 1, h', l' ++ [⟨((endO (G.take k) : Nat) : Int), ob.tag, h9, ob.fs⟩]), by simp only; omega, ⟨by simp only; omega, by rw [htk]; exact mr_snoc hm' ob.tag h9 ob.fs⟩, le_mkSl rfl ?_ ?_⟩
    · refine ⟨fun i x hi => ?_, fun _ _ h => h, List.sublist_cons_self _ _, fun _ h => h⟩
      simp only [go_sem, Int.natCast_nonneg, Nat.reduceEqDiff, Nat.reduceAdd, Nat.reduceSub, Nat.reduceLT, Nat.reduceMul, Nat.reduceBEq, Nat.reduceLeDiff, ↓reduceIte, Int.toNat_natCast, Int.reduceToNat, Int.toNat_zero, Int.toNat_one, not_true_eq_false, false_or, or_self, Nat.reduceGT, Option.isSome_some, Bool.and_self, Nat.zero_add, Nat.mul_one, List.length_map, List.take_length, Int.cast_ofNat_Int, Int.reduceLE, Int.reduceLT, Int.reduceGE, Int.reduceGT, Int.reduceEq, Int.reduceNe, Int.le_refl, Nat.le_refl, Nat.reduceAdd, ne_eq, not_false_eq_true, reduceCtorEq, beq_true, beq_false, BEq.rfl, Bool.not_true, Bool.not_false, decide_true, decide_false, exists_prop, Hp.setBlk_blk, Hp.setSp, Hp.setBlk] at hi ⊢
      by_cases e1 : i = b6
      · subst e1; simpa [objsAV, iv] using hi
      · simpa [e1] using hi
    · simp [go_sem, intsAV, objsAV, iv, hptrAV]
  · have e : k = G.length := by simp at h1; omega
    subst e
    rw [List.take_length] at hm'
    refine draw_by (mu := [4, 6, 49]) (fun h => h.blk b6 = some (31, [.v (.int .i64 size), .lst 3 ho' (l'.map RObj.av)])) (.take 0 (.take 1 (.take 3 (.br 2 (.br 4 (.take 5 (.br 6 (.take 7 (.done)) (.stop))) (.stop)) (.stop))))) (by decide +kernel) (by simp only [go_sem, Int.natCast_nonneg, Nat.reduceEqDiff, Nat.reduceAdd, Nat.reduceSub, Nat.reduceLT, Nat.reduceMul, Nat.reduceBEq, Nat.reduceLeDiff, ↓reduceIte, Int.toNat_natCast, Int.reduceToNat, Int.toNat_zero, Int.toNat_one, not_true_eq_false, false_or, or_self, Nat.reduceGT, Option.isSome_some, Bool.and_self, Nat.zero_add, Nat.mul_one, List.length_map, List.take_length, Int.cast_ofNat_Int, Int.reduceLE, Int.reduceLT, Int.reduceGE, Int.reduceGT, Int.reduceEq, Int.reduceNe, Int.le_refl, Nat.le_refl, Nat.reduceAdd, ne_eq, not_false_eq_true, reduceCtorEq, beq_true, beq_false, BEq.rfl, Bool.not_true, Bool.not_false, decide_true, decide_false, exists_prop, objsAV]) (by decide +kernel) (by decide +kernel) ?_
    simp only [go_sem, Int.natCast_nonneg, Nat.reduceEqDiff, Nat.reduceAdd, Nat.reduceSub, Nat.reduceLT, Nat.reduceMul, Nat.reduceBEq, Nat.reduceLeDiff, ↓reduceIte, Int.toNat_natCast, Int.reduceToNat, Int.toNat_zero, Int.toNat_one, not_true_eq_false, false_or, or_self, Nat.reduceGT, Option.isSome_some, Bool.and_self, Nat.zero_add, Nat.mul_one, List.length_map, List.take_length, Int.cast_ofNat_Int, Int.reduceLE, Int.reduceLT, Int.reduceGE, Int.reduceGT, Int.reduceEq, Int.reduceNe, Int.le_refl, Nat.le_refl, Nat.reduceAdd, ne_eq, not_false_eq_true, reduceCtorEq, beq_true, beq_false, BEq.rfl, Bool.not_true, Bool.not_false, decide_true, decide_false, exists_prop, objsAV]
    refine ⟨fun h e => by rw [e]; simp only [go_sem, Int.natCast_nonneg, Nat.reduceEqDiff, Nat.reduceAdd, Nat.reduceSub, Nat.reduceLT, Nat.reduceMul, Nat.reduceBEq, Nat.reduceLeDiff, ↓reduceIte, Int.toNat_natCast, Int.reduceToNat, Int.toNat_zero, Int.toNat_one, not_true_eq_false, false_or, or_self, Nat.reduceGT, Option.isSome_some, Bool.and_self, Nat.zero_add, Nat.mul_one, List.length_map, List.take_length, Int.cast_ofNat_Int, Int.reduceLE, Int.reduceLT, Int.reduceGE, Int.reduceGT, Int.reduceEq, Int.reduceNe, Int.le_refl, Nat.le_refl, Nat.reduceAdd, ne_eq, not_false_eq_true, reduceCtorEq, beq_true, beq_false, BEq.rfl, Bool.not_true, Bool.not_false, decide_true, decide_false, exists_prop], fun h e => by rw [e]; simp only [go_sem, Int.natCast_nonneg, Nat.reduceEqDiff, Nat.reduceAdd, Nat.reduceSub, Nat.reduceLT, Nat.reduceMul, Nat.reduceBEq, Nat.reduceLeDiff, ↓reduceIte, Int.toNat_natCast, Int.reduceToNat, Int.toNat_zero, Int.toNat_one, not_true_eq_false, false_or, or_self, Nat.reduceGT, Option.isSome_some, Bool.and_self, Nat.zero_add, Nat.mul_one, List.length_map, List.take_length, Int.cast_ofNat_Int, Int.reduceLE, Int.reduceLT, Int.reduceGE, Int.reduceGT, Int.reduceEq, Int.reduceNe, Int.le_refl, Nat.le_refl, Nat.reduceAdd, ne_eq, not_false_eq_true, reduceCtorEq, beq_true, beq_false, BEq.rfl, Bool.not_true, Bool.not_false, decide_true, decide_false, exists_prop], ?_⟩
    refine callX_by (used_calls size ho' hm' (by omega) _) ?_
    rintro r hp1 ⟨rfl, rfl⟩
    simp only [go_sem, Int.natCast_nonneg, Nat.reduceEqDiff, Nat.reduceAdd, Nat.reduceSub, Nat.reduceLT, Nat.reduceMul, Nat.reduceBEq, Nat.reduceLeDiff, ↓reduceIte, Int.toNat_natCast, Int.reduceToNat, Int.toNat_zero, Int.toNat_one, not_true_eq_false, false_or, or_self, Nat.reduceGT, Option.isSome_some, Bool.and_self, Nat.zero_add, Nat.mul_one, List.length_map, List.take_length, Int.cast_ofNat_Int, Int.reduceLE, Int.reduceLT, Int.reduceGE, Int.reduceGT, Int.reduceEq, Int.reduceNe, Int.le_refl, Nat.le_refl, Nat.reduceAdd, ne_eq, not_false_eq_true, reduceCtorEq, beq_true, beq_false, BEq.rfl, Bool.not_true, Bool.not_false, decide_true, decide_false, exists_prop, objsAV, n46, Ne.symm n46]
    refine callX_by (usedH_calls hblkX) ?_
    rintro r hp1 ⟨rfl, rfl⟩
    simp only [go_sem, Int.natCast_nonneg, Nat.reduceEqDiff, Nat.reduceAdd, Nat.reduceSub, Nat.reduceLT, Nat.reduceMul, Nat.reduceBEq, Nat.reduceLeDiff, ↓reduceIte, Int.toNat_natCast, Int.reduceToNat, Int.toNat_zero, Int.toNat_one, not_true_eq_false, false_or, or_self, Nat.reduceGT, Option.isSome_some, Bool.and_self, Nat.zero_add, Nat.mul_one, List.length_map, List.take_length, Int.cast_ofNat_Int, Int.reduceLE, Int.reduceLT, Int.reduceGE, Int.reduceGT, Int.reduceEq, Int.reduceNe, Int.le_refl, Nat.le_refl, Nat.reduceAdd, ne_eq, not_false_eq_true, reduceCtorEq, beq_true, beq_false, BEq.rfl, Bool.not_true, Bool.not_false, decide_true, decide_false, exists_prop, objsAV, n46, Ne.symm n46, iv, hc1]
    refine ret_le (hp' := hp) ⟨fun i x hi => ?_, fun _ _ h => h, List.sublist_cons_self _ _, fun _ h => h⟩ ⟨⟨ho', l', rfl, hm'⟩, rfl⟩
    have hb4n : hp.blk b4 = none := hb4.1
    have e4 : i ≠ b4 := by rintro rfl; rw [hb4n] at hi; cases hi
    have e6 : i ≠ b6 := by rintro rfl; rw [hb6n] at hi; cases hi
    simpa [Hp.setBlk, Hp.setSp, e4, e6] using hi
end Go.Proofs.Ytfdlfcafcjhpmaa
