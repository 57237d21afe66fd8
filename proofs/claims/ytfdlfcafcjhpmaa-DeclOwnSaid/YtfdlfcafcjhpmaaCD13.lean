/- The law's fixed calls. -/
import Derived.Test.YtfdlfcafcjhpmaaCD12
import Derived.Test.YtfdlfcafcjhpmaaCAL20
set_option linter.unusedSimpArgs false
set_option linter.unusedVariables false
set_option maxRecDepth 20000
set_option maxHeartbeats 4000000
namespace Go.Proofs.Ytfdlfcafcjhpmaa
open Go.AL

theorem bv_flat (s : List Bool) : (s.map fun b => AV.v (.bool b)).flatMap AV.cells = bv s := by
  induction s with
  | nil => rfl
  | cons b s ih => simp only [List.map_cons, List.flatMap_cons, ih]; rfl

/-- SameBools of rows that are still the call's own. -/
theorem sameRaw1_calls (b : Nat) (s t : List Bool) (ht : Value) (hs : s.length ≤ maxLen) (hp : Hp) (hb : hp.blk b = some (4, bv s)) :
    ACalls Try.prog 44 [blk1 b s.length, boolsAV ht t] hp (fun r hp' => r = .v (.bool (sameBy (fun x y => x == y) s t)) ∧ hp' = hp.delBlk b) :=
  acalls_pub (pre := []) (post := [boolsAV ht t]) (sz := 1) hb (bv_flat s) (fun x hx => by obtain ⟨y, _, rfl⟩ := List.mem_map.1 hx; rfl) (by simp) hs
    (fun m _ => by rw [AV.oks_iff]; intro a ha; obtain ⟨y, _, rfl⟩ := List.mem_map.1 ha; trivial)
    (sameBools_calls _ _ s t (hp.delBlk b))

def ex0 (h1 h3 : Value) : DeclG := ⟨[108, 105, 115, 116], false, h3, [⟨[78, 105, 108], .slice none 0 0, []⟩, ⟨[67, 111, 110, 115], h1, [⟨0, false⟩, ⟨1, false⟩]⟩]⟩
def exV0 (h1 h3 : Value) : AV := .agg [.v (.string (bs [108, 105, 115, 116])), .v (.bool false), .lst 2 h3 [.agg [.v (.string (bs [78, 105, 108])), .v (.slice none 0 0)], .agg [.v (.string (bs [67, 111, 110, 115])), .lst 2 h1 [.agg [.v (.int .i64 0), .v (.bool false)], .agg [.v (.int .i64 1), .v (.bool false)]]]]]
theorem ex0_ok (h1 h3 : Value) (m : Mem) (h : (exV0 h1 h3).ok m) : (ex0 h1 h3).av.ok m := by
  obtain ⟨x1, x2, ⟨hh, ⟨⟨y1, _, _⟩, y⟩⟩, z⟩ := h
  exact ⟨x1, x2, ⟨hh, ⟨⟨y1, (Cast.nil 2).2 m trivial, trivial⟩, y⟩⟩, z⟩
def exR (h2 h4 h5 h6 h7 : Value) : List DeclG := [⟨[115, 116, 114, 101, 97, 109], true, h6, [⟨[72, 101, 97, 100], h4, [⟨0, true⟩]⟩, ⟨[84, 97, 105, 108], h5, [⟨2, true⟩]⟩]⟩, ⟨[107, 110, 111, 116], false, h2, [⟨[84, 105, 101], h7, [⟨3, false⟩]⟩]⟩]
/-- A list that begins with the first declaration. -/
theorem ex_cast {f : FuncId} {H h1 h3 : Value} {r : List DeclG} {post : List AV} {hp : Hp} {R : AV → Hp → Prop} (h : ACalls Try.prog f (declsAV H (ex0 h1 h3 :: r) :: post) hp R) : ACalls Try.prog f (.lst 3 H (exV0 h1 h3 :: r.map DeclG.av) :: post) hp R :=
  acalls_cast (args := declsAV H (ex0 h1 h3 :: r) :: post) rfl (fun m ho => ⟨⟨ho.1.1, ex0_ok h1 h3 m ho.1.2.1, ho.1.2.2⟩, ho.2⟩) h

theorem ex_v1 (h1 h3 : Value) : validB [ex0 h1 h3] = true := by kernel_rfl
theorem ex_v3 (h1 h2 h3 h4 h5 h6 h7 : Value) : validB (ex0 h1 h3 :: exR h2 h4 h5 h6 h7) = true := by kernel_rfl
theorem ex_v2 (h2 h4 h5 h6 h7 : Value) : validB (exR h2 h4 h5 h6 h7) = false := by kernel_rfl
theorem ex_text (h1 h3 : Value) : textL [ex0 h1 h3] = [100, 97, 116, 97, 32, 108, 105, 115, 116, 32, 123, 32, 78, 105, 108, 40, 41, 44, 32, 67, 111, 110, 115, 40, 105, 110, 116, 44, 32, 108, 105, 115, 116, 41, 32, 125, 10] := by kernel_rfl
theorem ex_src (h1 h2 h3 h4 h5 h6 h7 : Value) : sourceB (ex0 h1 h3 :: exR h2 h4 h5 h6 h7) = true := by kernel_rfl
theorem ex_res (h1 h2 h3 h4 h5 h6 h7 : Value) : resO (ex0 h1 h3 :: exR h2 h4 h5 h6 h7) 2 1 = some 2 := by kernel_rfl
theorem ex_find (h1 h2 h3 h4 h5 h6 h7 : Value) : findD [67, 111, 110, 115] (ex0 h1 h3 :: exR h2 h4 h5 h6 h7) 0 = some (1, 1) := by kernel_rfl
theorem ex_pos (h1 h2 h3 h4 h5 h6 h7 : Value) : posB (ex0 h1 h3 :: exR h2 h4 h5 h6 h7) 2 = false := by kernel_rfl
theorem ex_small (h1 h2 h3 h4 h5 h6 h7 : Value) : IsSmall (ex0 h1 h3 :: exR h2 h4 h5 h6 h7) [true, false, false] := by
  refine isSmall_of rfl ?_ ?_
  · intro i hi
    match i with
    | 0 => exact .mk 0 (ex0 h1 h3) ⟨[78, 105, 108], .slice none 0 0, []⟩ rfl rfl (by simp [ex0]) (fun a ha => by cases ha) (fun a ha => by cases ha)
    | 1 => simp at hi
    | 2 => simp at hi
    | i + 3 => simp at hi
  · intro i d x hd hc hx hb
    match i with
    | 0 => rfl
    | 1 => simp [exR] at hd; subst hd; simp at hc
    | 2 =>
      simp [exR] at hd; subst hd
      simp at hx; subst hx
      exact absurd hb (by simp [builtA])
    | i + 3 => simp [exR] at hd

theorem awake_calls (hp : Hp) (hg : GOk hp) : ACalls Try.prog 41 [] hp (fun r hp' => r = .v (.bool true) ∧ hp' = hp) := by
  refine acalls_of Try.func41 rfl (by decide +kernel) (awp_sound (mu := []) _ _ _ ?_)
  simp only [go_sem, Int.natCast_nonneg, Nat.reduceEqDiff, Nat.reduceAdd, Nat.reduceSub, Nat.reduceLT, Nat.reduceMul, Nat.reduceBEq, Nat.reduceLeDiff, ↓reduceIte, Int.toNat_natCast, Int.reduceToNat, Int.toNat_zero, Int.toNat_one, not_true_eq_false, false_or, or_self, Nat.reduceGT, Option.isSome_some, Bool.and_self, Nat.zero_add, Nat.mul_one, List.length_map, List.take_length, Int.cast_ofNat_Int, Int.reduceLE, Int.reduceLT, Int.reduceGE, Int.reduceGT, Int.reduceEq, Int.reduceNe, Int.le_refl, Nat.le_refl, Nat.reduceAdd, ne_eq, not_false_eq_true, reduceCtorEq, beq_true, beq_false, BEq.rfl, Bool.not_true, Bool.not_false, decide_true, decide_false, exists_prop]
  refine ⟨rfl, by simp, fun a1 => ⟨rfl, by simp, fun a2 => ⟨rfl, by simp, fun a3 => ⟨rfl, by simp, fun a4 => ⟨rfl, by simp, fun a5 => ⟨rfl, by simp, fun a6 => ⟨rfl, by simp, fun a7 => ⟨rfl, by simp, fun a8 => ?_⟩⟩⟩⟩⟩⟩⟩⟩
  intro a' c'
  have hle : hp.le (hp.setSp ((91, 3, a8) :: (88, 2, a7) :: (93, 2, a6) :: (88, 2, a5) :: (93, 2, a4) :: (93, 2, a3) :: (88, 2, a2) :: (93, 2, a1) :: hp.sp)) :=
    ⟨fun _ _ h => h, fun _ _ h => h, List.sublist_append_right [_, _, _, _, _, _, _, _] _, fun _ h => h⟩
  have hgx : GOk (hp.setSp ((91, 3, a8) :: (88, 2, a7) :: (93, 2, a6) :: (88, 2, a5) :: (93, 2, a4) :: (93, 2, a3) :: (88, 2, a2) :: (93, 2, a1) :: hp.sp)) := hg
  generalize hp.setSp ((91, 3, a8) :: (88, 2, a7) :: (93, 2, a6) :: (88, 2, a5) :: (93, 2, a4) :: (93, 2, a3) :: (88, 2, a2) :: (93, 2, a1) :: hp.sp) = hx at hle hgx
  refine callX_by (ex_cast (r := []) (h1 := a1) (h3 := a2) (decl_string_calls _ _ _ hgx)) ?_
  rintro r hp' ⟨rfl, rfl⟩
  simp only [go_sem, Int.natCast_nonneg, Nat.reduceEqDiff, Nat.reduceAdd, Nat.reduceSub, Nat.reduceLT, Nat.reduceMul, Nat.reduceBEq, Nat.reduceLeDiff, ↓reduceIte, Int.toNat_natCast, Int.reduceToNat, Int.toNat_zero, Int.toNat_one, not_true_eq_false, false_or, or_self, Nat.reduceGT, Option.isSome_some, Bool.and_self, Nat.zero_add, Nat.mul_one, List.length_map, List.take_length, Int.cast_ofNat_Int, Int.reduceLE, Int.reduceLT, Int.reduceGE, Int.reduceGT, Int.reduceEq, Int.reduceNe, Int.le_refl, Nat.le_refl, Nat.reduceAdd, ne_eq, not_false_eq_true, reduceCtorEq, beq_true, beq_false, BEq.rfl, Bool.not_true, Bool.not_false, decide_true, decide_false, exists_prop, ex_v1, ex_text, checkE]
  refine callX_by (ex_cast (r := exR a7 a3 a4 a5 a6) (h1 := a1) (h3 := a2) (check_calls _ _ _ hgx)) ?_
  rintro r hp2 ⟨rfl, rfl⟩
  simp only [go_sem, Int.natCast_nonneg, Nat.reduceEqDiff, Nat.reduceAdd, Nat.reduceSub, Nat.reduceLT, Nat.reduceMul, Nat.reduceBEq, Nat.reduceLeDiff, ↓reduceIte, Int.toNat_natCast, Int.reduceToNat, Int.toNat_zero, Int.toNat_one, not_true_eq_false, false_or, or_self, Nat.reduceGT, Option.isSome_some, Bool.and_self, Nat.zero_add, Nat.mul_one, List.length_map, List.take_length, Int.cast_ofNat_Int, Int.reduceLE, Int.reduceLT, Int.reduceGE, Int.reduceGT, Int.reduceEq, Int.reduceNe, Int.le_refl, Nat.le_refl, Nat.reduceAdd, ne_eq, not_false_eq_true, reduceCtorEq, beq_true, beq_false, BEq.rfl, Bool.not_true, Bool.not_false, decide_true, decide_false, exists_prop, ex_v3, checkE]
  intro a9 c9
  refine callX_by (check_calls _ (exR a7 a3 a4 a5 a6) _ hgx) ?_
  rintro r hp3 ⟨rfl, rfl⟩
  simp only [go_sem, Int.natCast_nonneg, Nat.reduceEqDiff, Nat.reduceAdd, Nat.reduceSub, Nat.reduceLT, Nat.reduceMul, Nat.reduceBEq, Nat.reduceLeDiff, ↓reduceIte, Int.toNat_natCast, Int.reduceToNat, Int.toNat_zero, Int.toNat_one, not_true_eq_false, false_or, or_self, Nat.reduceGT, Option.isSome_some, Bool.and_self, Nat.zero_add, Nat.mul_one, List.length_map, List.take_length, Int.cast_ofNat_Int, Int.reduceLE, Int.reduceLT, Int.reduceGE, Int.reduceGT, Int.reduceEq, Int.reduceNe, Int.le_refl, Nat.le_refl, Nat.reduceAdd, ne_eq, not_false_eq_true, reduceCtorEq, beq_true, beq_false, BEq.rfl, Bool.not_true, Bool.not_false, decide_true, decide_false, exists_prop, ex_v2, checkE]
  refine callX_by (ex_cast (r := exR a7 a3 a4 a5 a6) (h1 := a1) (h3 := a2) (source_calls _ _ _ hgx)) ?_
  rintro r hp4 ⟨rfl, rfl⟩
  simp only [go_sem, Int.natCast_nonneg, Nat.reduceEqDiff, Nat.reduceAdd, Nat.reduceSub, Nat.reduceLT, Nat.reduceMul, Nat.reduceBEq, Nat.reduceLeDiff, ↓reduceIte, Int.toNat_natCast, Int.reduceToNat, Int.toNat_zero, Int.toNat_one, not_true_eq_false, false_or, or_self, Nat.reduceGT, Option.isSome_some, Bool.and_self, Nat.zero_add, Nat.mul_one, List.length_map, List.take_length, Int.cast_ofNat_Int, Int.reduceLE, Int.reduceLT, Int.reduceGE, Int.reduceGT, Int.reduceEq, Int.reduceNe, Int.le_refl, Nat.le_refl, Nat.reduceAdd, ne_eq, not_false_eq_true, reduceCtorEq, beq_true, beq_false, BEq.rfl, Bool.not_true, Bool.not_false, decide_true, decide_false, exists_prop, ex_v3, ex_src, checkE]
  refine callX_by (ex_cast (r := exR a7 a3 a4 a5 a6) (h1 := a1) (h3 := a2) (resultT_calls _ _ 2 1 _ hgx)) ?_
  rintro r hp5 ⟨rfl, rfl⟩
  simp only [go_sem, Int.natCast_nonneg, Nat.reduceEqDiff, Nat.reduceAdd, Nat.reduceSub, Nat.reduceLT, Nat.reduceMul, Nat.reduceBEq, Nat.reduceLeDiff, ↓reduceIte, Int.toNat_natCast, Int.reduceToNat, Int.toNat_zero, Int.toNat_one, not_true_eq_false, false_or, or_self, Nat.reduceGT, Option.isSome_some, Bool.and_self, Nat.zero_add, Nat.mul_one, List.length_map, List.take_length, Int.cast_ofNat_Int, Int.reduceLE, Int.reduceLT, Int.reduceGE, Int.reduceGT, Int.reduceEq, Int.reduceNe, Int.le_refl, Nat.le_refl, Nat.reduceAdd, ne_eq, not_false_eq_true, reduceCtorEq, beq_true, beq_false, BEq.rfl, Bool.not_true, Bool.not_false, decide_true, decide_false, exists_prop, resV, resE, ex_v3, ex_res]
  refine callX_by (ex_cast (r := exR a7 a3 a4 a5 a6) (h1 := a1) (h3 := a2) (find_calls _ _ [67, 111, 110, 115] _ hgx)) ?_
  rintro r hp6 ⟨rfl, rfl⟩
  simp only [go_sem, Int.natCast_nonneg, Nat.reduceEqDiff, Nat.reduceAdd, Nat.reduceSub, Nat.reduceLT, Nat.reduceMul, Nat.reduceBEq, Nat.reduceLeDiff, ↓reduceIte, Int.toNat_natCast, Int.reduceToNat, Int.toNat_zero, Int.toNat_one, not_true_eq_false, false_or, or_self, Nat.reduceGT, Option.isSome_some, Bool.and_self, Nat.zero_add, Nat.mul_one, List.length_map, List.take_length, Int.cast_ofNat_Int, Int.reduceLE, Int.reduceLT, Int.reduceGE, Int.reduceGT, Int.reduceEq, Int.reduceNe, Int.le_refl, Nat.le_refl, Nat.reduceAdd, ne_eq, not_false_eq_true, reduceCtorEq, beq_true, beq_false, BEq.rfl, Bool.not_true, Bool.not_false, decide_true, decide_false, exists_prop, findO, findE, ex_v3, ex_find, foundT, foundN]
  refine callX_by (ex_cast (r := exR a7 a3 a4 a5 a6) (h1 := a1) (h3 := a2) (small_calls _ _ _ hgx)) ?_
  rintro r hp7 (⟨hv, _⟩ | ⟨_, b, s, hsm, rfl, hfr, rfl⟩)
  · rw [ex_v3] at hv; cases hv
  obtain rfl := isSmall_unique hsm (ex_small a1 a7 a2 a3 a4 a5 a6)
  simp only [go_sem, Int.natCast_nonneg, Nat.reduceEqDiff, Nat.reduceAdd, Nat.reduceSub, Nat.reduceLT, Nat.reduceMul, Nat.reduceBEq, Nat.reduceLeDiff, ↓reduceIte, Int.toNat_natCast, Int.reduceToNat, Int.toNat_zero, Int.toNat_one, not_true_eq_false, false_or, or_self, Nat.reduceGT, Option.isSome_some, Bool.and_self, Nat.zero_add, Nat.mul_one, List.length_map, List.take_length, Int.cast_ofNat_Int, Int.reduceLE, Int.reduceLT, Int.reduceGE, Int.reduceGT, Int.reduceEq, Int.reduceNe, Int.le_refl, Nat.le_refl, Nat.reduceAdd, ne_eq, not_false_eq_true, reduceCtorEq, beq_true, beq_false, BEq.rfl, Bool.not_true, Bool.not_false, decide_true, decide_false, exists_prop]
  have hgy : GOk (hp6.setBlk b 4 (bv [true, false, false])) := hgx
  refine callX_by (ex_cast (r := exR a7 a3 a4 a5 a6) (h1 := a1) (h3 := a2) (positive_calls _ _ 2 _ hgy)) ?_
  rintro r hp8 ⟨rfl, rfl⟩
  simp only [go_sem, Int.natCast_nonneg, Nat.reduceEqDiff, Nat.reduceAdd, Nat.reduceSub, Nat.reduceLT, Nat.reduceMul, Nat.reduceBEq, Nat.reduceLeDiff, ↓reduceIte, Int.toNat_natCast, Int.reduceToNat, Int.toNat_zero, Int.toNat_one, not_true_eq_false, false_or, or_self, Nat.reduceGT, Option.isSome_some, Bool.and_self, Nat.zero_add, Nat.mul_one, List.length_map, List.take_length, Int.cast_ofNat_Int, Int.reduceLE, Int.reduceLT, Int.reduceGE, Int.reduceGT, Int.reduceEq, Int.reduceNe, Int.le_refl, Nat.le_refl, Nat.reduceAdd, ne_eq, not_false_eq_true, reduceCtorEq, beq_true, beq_false, BEq.rfl, Bool.not_true, Bool.not_false, decide_true, decide_false, exists_prop, ex_pos, posE, ex_v3]
  refine ⟨rfl, by simp, fun hd => ?_⟩
  refine callX_by (sameRaw1_calls b [true, false, false] [true, false, false] hd (by simp [maxLen]) _ (by simp [Hp.setBlk, Hp.setSp])) ?_
  rintro r hp9 ⟨rfl, rfl⟩
  simp only [go_sem, Int.natCast_nonneg, Nat.reduceEqDiff, Nat.reduceAdd, Nat.reduceSub, Nat.reduceLT, Nat.reduceMul, Nat.reduceBEq, Nat.reduceLeDiff, ↓reduceIte, Int.toNat_natCast, Int.reduceToNat, Int.toNat_zero, Int.toNat_one, not_true_eq_false, false_or, or_self, Nat.reduceGT, Option.isSome_some, Bool.and_self, Nat.zero_add, Nat.mul_one, List.length_map, List.take_length, Int.cast_ofNat_Int, Int.reduceLE, Int.reduceLT, Int.reduceGE, Int.reduceGT, Int.reduceEq, Int.reduceNe, Int.le_refl, Nat.le_refl, Nat.reduceAdd, ne_eq, not_false_eq_true, reduceCtorEq, beq_true, beq_false, BEq.rfl, Bool.not_true, Bool.not_false, decide_true, decide_false, exists_prop, show sameBy (fun x y => x == y) [true, false, false] [true, false, false] = true from rfl]
  refine ret_le (hp' := hp) ?_ ⟨rfl, rfl⟩
  refine ⟨fun j x hj => ?_, fun j x hj => hle.mp j x hj, hle.sp.trans (List.sublist_cons_self _ _), hle.gl⟩
  have h6 := hle.blk j x hj
  have hne : j ≠ b := by rintro rfl; rw [hfr.1] at h6; cases h6
  simp [Hp.delBlk, Hp.setSp, Hp.setBlk, hne, h6]
end Go.Proofs.Ytfdlfcafcjhpmaa
