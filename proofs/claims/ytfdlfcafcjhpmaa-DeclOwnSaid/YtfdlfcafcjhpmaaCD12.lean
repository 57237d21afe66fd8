/- The reference's String. -/
import Derived.Test.YtfdlfcafcjhpmaaCD11
set_option linter.unusedSimpArgs false
set_option linter.unusedVariables false
set_option maxRecDepth 20000
set_option maxHeartbeats 4000000
namespace Go.Proofs.Ytfdlfcafcjhpmaa
open Go.AL

theorem join_snoc (sep : List UInt8) : ∀ (L : List (List UInt8)) (x : List UInt8), Lib.join (L ++ [x]) sep = if L = [] then x else Lib.join L sep ++ sep ++ x
  | [], x => by simp [Lib.join_one]
  | y :: r, x => by
    rw [List.cons_append, Lib.join_cons, Lib.join_cons, if_neg (by simp)]
    simp [Lib.joinTail, List.append_assoc]

theorem join_step {α : Type} (f : α → List UInt8) (sep : List UInt8) (L : List α) (i : Nat) (x : α) (h : L[i]? = some x) :
    Lib.join ((L.take (i + 1)).map f) sep = Lib.join ((L.take i).map f) sep ++ (if decide ((i : Int) > 0) = true then sep else []) ++ f x := by
  have hi := (List.getElem?_eq_some_iff.1 h).1
  rw [List.take_add_one, h]
  simp only [Option.toList_some, List.map_append, List.map_cons, List.map_nil, join_snoc]
  cases i with
  | zero => simp [Lib.join_nil]
  | succ i =>
    have : (L.take (i + 1)).map f ≠ [] := by cases L <;> simp at hi ⊢
    rw [if_neg this, if_pos (by simp)]

theorem rstring_calls (hd : Value) (l : List DeclG) (hs : Short l) (hp : Hp) : ACalls Try.prog 43 [declsAV hd l] hp (fun r hp' => r = .v (.string (bs (textL l))) ∧ hp' = hp) := by
  refine acalls_fit (callable_of Try.func43 (by decide +kernel)) fun hfit => ?_
  have hl := fit_decls hfit.1
  refine acalls_of Try.func43 rfl (by decide +kernel) (awp_sound (mu := []) _ _ _ ?_)
  simp only [go_sem, Int.natCast_nonneg, Nat.reduceEqDiff, Nat.reduceAdd, Nat.reduceSub, Nat.reduceLT, Nat.reduceMul, Nat.reduceBEq, Nat.reduceLeDiff, ↓reduceIte, Int.toNat_natCast, Int.reduceToNat, Int.toNat_zero, Int.toNat_one, not_true_eq_false, false_or, or_self, Nat.reduceGT, Option.isSome_some, Bool.and_self, Nat.zero_add, Nat.mul_one, List.length_map, List.take_length, Int.cast_ofNat_Int, Int.reduceLE, Int.reduceLT, Int.reduceGE, Int.reduceGT, Int.reduceEq, Int.reduceNe, Int.le_refl, Nat.le_refl, Nat.reduceAdd, ne_eq, not_false_eq_true, reduceCtorEq, beq_true, beq_false, BEq.rfl, Bool.not_true, Bool.not_false, decide_true, decide_false, exists_prop, declsAV]
  refine aw_loopX 73 (fun k : Nat => [(0, .lst 3 hd (l.map DeclG.av)), (3, .v (.string (bs ((l.take k).flatMap (declT l))))), (10, .lst 3 hd (l.map DeclG.av)), (11, .v (.int .i64 l.length)), (12, .v (.int .i64 k))])
    (fun _ => hp) (fun k => k ≤ l.length) (fun k => l.length - k) 0
    (Nat.zero_le _) (le_mkSl rfl (Hp.le_refl _) (by simp [go_sem])) ?_
  intro k hk
  have hl8 := hs.len
  generalize hout : (l.take k).flatMap (declT l) = out
  have houtl : out.length ≤ 4800 := by
    rw [← hout]
    have := textP_len hs (l.take k) (fun d hd => List.mem_of_mem_take hd)
    have h8 : (l.take k).length ≤ 8 := by simp; omega
    omega
  refine awp_sound (mu := []) _ _ _ ?_
  simp only [go_sem, Int.natCast_nonneg, Nat.reduceEqDiff, Nat.reduceAdd, Nat.reduceSub, Nat.reduceLT, Nat.reduceMul, Nat.reduceBEq, Nat.reduceLeDiff, ↓reduceIte, Int.toNat_natCast, Int.reduceToNat, Int.toNat_zero, Int.toNat_one, not_true_eq_false, false_or, or_self, Nat.reduceGT, Option.isSome_some, Bool.and_self, Nat.zero_add, Nat.mul_one, List.length_map, List.take_length, Int.cast_ofNat_Int, Int.reduceLE, Int.reduceLT, Int.reduceGE, Int.reduceGT, Int.reduceEq, Int.reduceNe, Int.le_refl, Nat.le_refl, Nat.reduceAdd, ne_eq, not_false_eq_true, reduceCtorEq, beq_true, beq_false, BEq.rfl, Bool.not_true, Bool.not_false, decide_true, decide_false, exists_prop]
  refine brK_mk (fun h => ?_) (fun h => ?_) <;> simp only [go_sem, Int.natCast_nonneg, Nat.reduceEqDiff, Nat.reduceAdd, Nat.reduceSub, Nat.reduceLT, Nat.reduceMul, Nat.reduceBEq, Nat.reduceLeDiff, ↓reduceIte, Int.toNat_natCast, Int.reduceToNat, Int.toNat_zero, Int.toNat_one, not_true_eq_false, false_or, or_self, Nat.reduceGT, Option.isSome_some, Bool.and_self, Nat.zero_add, Nat.mul_one, List.length_map, List.take_length, Int.cast_ofNat_Int, Int.reduceLE, Int.reduceLT, Int.reduceGE, Int.reduceGT, Int.reduceEq, Int.reduceNe, Int.le_refl, Nat.le_refl, Nat.reduceAdd, ne_eq, not_false_eq_true, reduceCtorEq, beq_true, beq_false, BEq.rfl, Bool.not_true, Bool.not_false, decide_true, decide_false, exists_prop, h]
  · have hk' : k < l.length := by simpa using h
    obtain ⟨d, hgd⟩ := some_at l k hk'
    have hmem := List.mem_of_getElem? hgd
    have hxl := hl.xt d hmem
    have hcd : d.cs = [.v (.string (bs d.name)), .v (.bool d.codata), .lst 2 d.h (d.xtors.map XtorG.av)] := rfl
    have hnl := hs.name d hmem
    have hd6 := hs.xt d hmem
    simp only [go_sem, Int.natCast_nonneg, Nat.reduceEqDiff, Nat.reduceAdd, Nat.reduceSub, Nat.reduceLT, Nat.reduceMul, Nat.reduceBEq, Nat.reduceLeDiff, ↓reduceIte, Int.toNat_natCast, Int.reduceToNat, Int.toNat_zero, Int.toNat_one, not_true_eq_false, false_or, or_self, Nat.reduceGT, Option.isSome_some, Bool.and_self, Nat.zero_add, Nat.mul_one, List.length_map, List.take_length, Int.cast_ofNat_Int, Int.reduceLE, Int.reduceLT, Int.reduceGE, Int.reduceGT, Int.reduceEq, Int.reduceNe, Int.le_refl, Nat.le_refl, Nat.reduceAdd, ne_eq, not_false_eq_true, reduceCtorEq, beq_true, beq_false, BEq.rfl, Bool.not_true, Bool.not_false, decide_true, decide_false, exists_prop, h, map_at DeclG.av _ _ _ hgd, DeclG.av, DeclG.cs]
    intro v hv
    have hds := fun T cs => Hp.del_set _ _ T cs hv.1
    generalize hpre : out ++ wordT d.codata ++ d.name ++ [32, 123, 32] = pre
    have hprel : pre.length ≤ 4830 := by
      rw [← hpre]
      have : (wordT d.codata).length ≤ 7 := by unfold wordT; split <;> simp
      simp; omega
    have htd : (l.take (k + 1)).flatMap (declT l) = pre ++ Lib.join (d.xtors.map (xtorT l)) [44, 32] ++ [32, 125, 10] := by
      rw [List.take_add_one, hgd, List.flatMap_append, hout, ← hpre]; simp [declT, List.append_assoc]
    refine brK_mk (fun h2 => ?_) (fun h2 => ?_) <;> simp only [go_sem, Int.natCast_nonneg, Nat.reduceEqDiff, Nat.reduceAdd, Nat.reduceSub, Nat.reduceLT, Nat.reduceMul, Nat.reduceBEq, Nat.reduceLeDiff, ↓reduceIte, Int.toNat_natCast, Int.reduceToNat, Int.toNat_zero, Int.toNat_one, not_true_eq_false, false_or, or_self, Nat.reduceGT, Option.isSome_some, Bool.and_self, Nat.zero_add, Nat.mul_one, List.length_map, List.take_length, Int.cast_ofNat_Int, Int.reduceLE, Int.reduceLT, Int.reduceGE, Int.reduceGT, Int.reduceEq, Int.reduceNe, Int.le_refl, Nat.le_refl, Nat.reduceAdd, ne_eq, not_false_eq_true, reduceCtorEq, beq_true, beq_false, BEq.rfl, Bool.not_true, Bool.not_false, decide_true, decide_false, exists_prop, h2, hds]
    · refine ⟨(by first | omega | (simp; omega)), (by first | omega | (simp; omega)), (by first | omega | (simp; omega)), (by first | omega | (simp; omega)), ?_⟩
      refine aw_loopX 73 (fun j : Nat => [(0, .lst 3 hd (l.map DeclG.av)), (10, .lst 3 hd (l.map DeclG.av)), (11, .v (.int .i64 l.length)), (12, .v (.int .i64 k)), (5, .ref (.pointer (some ⟨v, 0, none⟩)) d.cs), (3, .v (.string (bs (pre ++ Lib.join ((d.xtors.take j).map (xtorT l)) [44, 32])))), (27, .lst 2 d.h (d.xtors.map XtorG.av)), (28, .v (.int .i64 d.xtors.length)), (29, .v (.int .i64 j))])
        (fun _ => hp) (fun j => j ≤ d.xtors.length) (fun j => d.xtors.length - j) 0
        (Nat.zero_le _) (le_mkSl rfl (by simp only [go_sem, hds]; exact Hp.le_refl _) (by simp [go_sem, hcd, h2, ← hpre, wordT, Lib.join_nil, List.append_assoc])) ?_
      intro j hj
      have hJl : (Lib.join ((d.xtors.take j).map (xtorT l)) [44, 32]).length ≤ 552 := by
        have := join_len 90 [44, 32] ((d.xtors.take j).map (xtorT l)) (fun x hx => by obtain ⟨a, ha, rfl⟩ := List.mem_map.1 hx; exact xtorT_len hs hmem (List.mem_of_mem_take ha))
        have h6 : ((d.xtors.take j).map (xtorT l)).length ≤ 6 := by simp; omega
        simp only [List.length_cons, List.length_nil] at this; omega
      refine awp_sound (mu := []) _ _ _ ?_
      simp only [go_sem, Int.natCast_nonneg, Nat.reduceEqDiff, Nat.reduceAdd, Nat.reduceSub, Nat.reduceLT, Nat.reduceMul, Nat.reduceBEq, Nat.reduceLeDiff, ↓reduceIte, Int.toNat_natCast, Int.reduceToNat, Int.toNat_zero, Int.toNat_one, not_true_eq_false, false_or, or_self, Nat.reduceGT, Option.isSome_some, Bool.and_self, Nat.zero_add, Nat.mul_one, List.length_map, List.take_length, Int.cast_ofNat_Int, Int.reduceLE, Int.reduceLT, Int.reduceGE, Int.reduceGT, Int.reduceEq, Int.reduceNe, Int.le_refl, Nat.le_refl, Nat.reduceAdd, ne_eq, not_false_eq_true, reduceCtorEq, beq_true, beq_false, BEq.rfl, Bool.not_true, Bool.not_false, decide_true, decide_false, exists_prop]
      refine brK_mk (fun h3 => ?_) (fun h3 => ?_)
      · have hj' : j < d.xtors.length := by simpa using h3
        obtain ⟨x, hx⟩ := some_at d.xtors j hj'
        have hxm := List.mem_of_getElem? hx
        have hal := hl.ar d hmem x hxm
        have hxc : x.cs = [.v (.string (bs x.name)), .lst 2 x.h (x.args.map ArgG.av)] := rfl
        have hxn := hs.xname d hmem x hxm
        have hx6 := hs.ar d hmem x hxm
        have hstx := join_step (xtorT l) [44, 32] d.xtors j x hx
        generalize hJ : Lib.join ((d.xtors.take j).map (xtorT l)) [44, 32] = J at hstx hJl
        simp only [go_sem, Int.natCast_nonneg, Nat.reduceEqDiff, Nat.reduceAdd, Nat.reduceSub, Nat.reduceLT, Nat.reduceMul, Nat.reduceBEq, Nat.reduceLeDiff, ↓reduceIte, Int.toNat_natCast, Int.reduceToNat, Int.toNat_zero, Int.toNat_one, not_true_eq_false, false_or, or_self, Nat.reduceGT, Option.isSome_some, Bool.and_self, Nat.zero_add, Nat.mul_one, List.length_map, List.take_length, Int.cast_ofNat_Int, Int.reduceLE, Int.reduceLT, Int.reduceGE, Int.reduceGT, Int.reduceEq, Int.reduceNe, Int.le_refl, Nat.le_refl, Nat.reduceAdd, ne_eq, not_false_eq_true, reduceCtorEq, beq_true, beq_false, BEq.rfl, Bool.not_true, Bool.not_false, decide_true, decide_false, exists_prop, h3, map_at XtorG.av _ _ _ hx, XtorG.av, XtorG.cs, hJ]
        intro u hu
        have hdu := fun T cs => Hp.del_set _ _ T cs hu.1
        refine brK_mk (fun h4 => ?_) (fun h4 => ?_) <;> simp only [go_sem, Int.natCast_nonneg, Nat.reduceEqDiff, Nat.reduceAdd, Nat.reduceSub, Nat.reduceLT, Nat.reduceMul, Nat.reduceBEq, Nat.reduceLeDiff, ↓reduceIte, Int.toNat_natCast, Int.reduceToNat, Int.toNat_zero, Int.toNat_one, not_true_eq_false, false_or, or_self, Nat.reduceGT, Option.isSome_some, Bool.and_self, Nat.zero_add, Nat.mul_one, List.length_map, List.take_length, Int.cast_ofNat_Int, Int.reduceLE, Int.reduceLT, Int.reduceGE, Int.reduceGT, Int.reduceEq, Int.reduceNe, Int.le_refl, Nat.le_refl, Nat.reduceAdd, ne_eq, not_false_eq_true, reduceCtorEq, beq_true, beq_false, BEq.rfl, Bool.not_true, Bool.not_false, decide_true, decide_false, exists_prop, h4, hdu] <;> rw [h4] at hstx
        · refine ⟨(by first | omega | (simp; omega)), (by first | omega | (simp; omega)), (by first | omega | (simp; omega)), ?_⟩
          generalize hB2 : pre ++ J ++ [44, 32] ++ x.name ++ [40] = B2
          have hB2l : B2.length ≤ 5500 := by rw [← hB2]; simp; omega
          refine aw_loopX 73 (fun i : Nat => [(0, .lst 3 hd (l.map DeclG.av)), (10, .lst 3 hd (l.map DeclG.av)), (11, .v (.int .i64 l.length)), (12, .v (.int .i64 k)), (5, .ref (.pointer (some ⟨v, 0, none⟩)) d.cs), (27, .lst 2 d.h (d.xtors.map XtorG.av)), (28, .v (.int .i64 d.xtors.length)), (29, .v (.int .i64 j)), (7, .ref (.pointer (some ⟨u, 0, none⟩)) x.cs),
              (3, .v (.string (bs (B2 ++ Lib.join ((x.args.take i).map (argT l)) [44, 32])))), (44, .lst 2 x.h (x.args.map ArgG.av)), (45, .v (.int .i64 x.args.length)), (46, .v (.int .i64 i))])
            (fun _ => hp) (fun i => i ≤ x.args.length) (fun i => x.args.length - i) 0
            (Nat.zero_le _) (le_mkSl rfl (by simp only [go_sem, hdu]; exact Hp.le_refl _) (by simp [go_sem, hcd, hxc, ← hB2, Lib.join_nil, h4])) ?_
          intro i hi
          have hJAl : (Lib.join ((x.args.take i).map (argT l)) [44, 32]).length ≤ 78 := joinA_len hs (x.args.take i) (by simp; omega)
          refine awp_sound (mu := []) _ _ _ ?_
          simp only [go_sem, Int.natCast_nonneg, Nat.reduceEqDiff, Nat.reduceAdd, Nat.reduceSub, Nat.reduceLT, Nat.reduceMul, Nat.reduceBEq, Nat.reduceLeDiff, ↓reduceIte, Int.toNat_natCast, Int.reduceToNat, Int.toNat_zero, Int.toNat_one, not_true_eq_false, false_or, or_self, Nat.reduceGT, Option.isSome_some, Bool.and_self, Nat.zero_add, Nat.mul_one, List.length_map, List.take_length, Int.cast_ofNat_Int, Int.reduceLE, Int.reduceLT, Int.reduceGE, Int.reduceGT, Int.reduceEq, Int.reduceNe, Int.le_refl, Nat.le_refl, Nat.reduceAdd, ne_eq, not_false_eq_true, reduceCtorEq, beq_true, beq_false, BEq.rfl, Bool.not_true, Bool.not_false, decide_true, decide_false, exists_prop]
          refine brK_mk (fun h5 => ?_) (fun h5 => ?_)
          · have hi' : i < x.args.length := by simpa using h5
            obtain ⟨a, ha⟩ := some_at x.args i hi'
            have hat := hs.ty d hmem x hxm a (List.mem_of_getElem? ha)
            have htl := typeName_len hs a.typ
            have hst := join_step (argT l) [44, 32] x.args i a ha
            generalize hJA : Lib.join ((x.args.take i).map (argT l)) [44, 32] = JA at hst hJAl
            simp only [go_sem, Int.natCast_nonneg, Nat.reduceEqDiff, Nat.reduceAdd, Nat.reduceSub, Nat.reduceLT, Nat.reduceMul, Nat.reduceBEq, Nat.reduceLeDiff, ↓reduceIte, Int.toNat_natCast, Int.reduceToNat, Int.toNat_zero, Int.toNat_one, not_true_eq_false, false_or, or_self, Nat.reduceGT, Option.isSome_some, Bool.and_self, Nat.zero_add, Nat.mul_one, List.length_map, List.take_length, Int.cast_ofNat_Int, Int.reduceLE, Int.reduceLT, Int.reduceGE, Int.reduceGT, Int.reduceEq, Int.reduceNe, Int.le_refl, Nat.le_refl, Nat.reduceAdd, ne_eq, not_false_eq_true, reduceCtorEq, beq_true, beq_false, BEq.rfl, Bool.not_true, Bool.not_false, decide_true, decide_false, exists_prop, h5, map_at ArgG.av _ _ _ ha, ArgG.av, ArgG.cs, hJA]
            intro w hw
            have hdw := fun T cs => Hp.del_set _ _ T cs hw.1
            refine brK_mk (fun h6 => ?_) (fun h6 => ?_) <;> simp only [go_sem, Int.natCast_nonneg, Nat.reduceEqDiff, Nat.reduceAdd, Nat.reduceSub, Nat.reduceLT, Nat.reduceMul, Nat.reduceBEq, Nat.reduceLeDiff, ↓reduceIte, Int.toNat_natCast, Int.reduceToNat, Int.toNat_zero, Int.toNat_one, not_true_eq_false, false_or, or_self, Nat.reduceGT, Option.isSome_some, Bool.and_self, Nat.zero_add, Nat.mul_one, List.length_map, List.take_length, Int.cast_ofNat_Int, Int.reduceLE, Int.reduceLT, Int.reduceGE, Int.reduceGT, Int.reduceEq, Int.reduceNe, Int.le_refl, Nat.le_refl, Nat.reduceAdd, ne_eq, not_false_eq_true, reduceCtorEq, beq_true, beq_false, BEq.rfl, Bool.not_true, Bool.not_false, decide_true, decide_false, exists_prop, h6, hdw] <;> rw [h6] at hst
            · refine ⟨(by first | omega | (simp; omega)), ?_⟩
              refine brK_mk (fun h7 => ?_) (fun h7 => ?_) <;> simp only [go_sem, Int.natCast_nonneg, Nat.reduceEqDiff, Nat.reduceAdd, Nat.reduceSub, Nat.reduceLT, Nat.reduceMul, Nat.reduceBEq, Nat.reduceLeDiff, ↓reduceIte, Int.toNat_natCast, Int.reduceToNat, Int.toNat_zero, Int.toNat_one, not_true_eq_false, false_or, or_self, Nat.reduceGT, Option.isSome_some, Bool.and_self, Nat.zero_add, Nat.mul_one, List.length_map, List.take_length, Int.cast_ofNat_Int, Int.reduceLE, Int.reduceLT, Int.reduceGE, Int.reduceGT, Int.reduceEq, Int.reduceNe, Int.le_refl, Nat.le_refl, Nat.reduceAdd, ne_eq, not_false_eq_true, reduceCtorEq, beq_true, beq_false, BEq.rfl, Bool.not_true, Bool.not_false, decide_true, decide_false, exists_prop, h7, hdw]
              · refine ⟨(by first | omega | (simp; omega)), ?_⟩
                refine callX_by (rtype_calls hd l a.typ hat.1 hat.2 _) ?_
                rintro r hp2 ⟨rfl, rfl⟩
                simp only [go_sem, Int.natCast_nonneg, Nat.reduceEqDiff, Nat.reduceAdd, Nat.reduceSub, Nat.reduceLT, Nat.reduceMul, Nat.reduceBEq, Nat.reduceLeDiff, ↓reduceIte, Int.toNat_natCast, Int.reduceToNat, Int.toNat_zero, Int.toNat_one, not_true_eq_false, false_or, or_self, Nat.reduceGT, Option.isSome_some, Bool.and_self, Nat.zero_add, Nat.mul_one, List.length_map, List.take_length, Int.cast_ofNat_Int, Int.reduceLE, Int.reduceLT, Int.reduceGE, Int.reduceGT, Int.reduceEq, Int.reduceNe, Int.le_refl, Nat.le_refl, Nat.reduceAdd, ne_eq, not_false_eq_true, reduceCtorEq, beq_true, beq_false, BEq.rfl, Bool.not_true, Bool.not_false, decide_true, decide_false, exists_prop]
                refine ⟨(by first | omega | (simp; omega)), i + 1, by omega, by omega, le_mkSl rfl (by simp only [go_sem, hdw]; exact Hp.le_refl _) ?_⟩
                simp [-List.map_take, go_sem, wrap_up i _ hi' hal, hst, h7, argT, hxc]
              · refine callX_by (rtype_calls hd l a.typ hat.1 hat.2 _) ?_
                rintro r hp2 ⟨rfl, rfl⟩
                simp only [go_sem, Int.natCast_nonneg, Nat.reduceEqDiff, Nat.reduceAdd, Nat.reduceSub, Nat.reduceLT, Nat.reduceMul, Nat.reduceBEq, Nat.reduceLeDiff, ↓reduceIte, Int.toNat_natCast, Int.reduceToNat, Int.toNat_zero, Int.toNat_one, not_true_eq_false, false_or, or_self, Nat.reduceGT, Option.isSome_some, Bool.and_self, Nat.zero_add, Nat.mul_one, List.length_map, List.take_length, Int.cast_ofNat_Int, Int.reduceLE, Int.reduceLT, Int.reduceGE, Int.reduceGT, Int.reduceEq, Int.reduceNe, Int.le_refl, Nat.le_refl, Nat.reduceAdd, ne_eq, not_false_eq_true, reduceCtorEq, beq_true, beq_false, BEq.rfl, Bool.not_true, Bool.not_false, decide_true, decide_false, exists_prop]
                refine ⟨(by first | omega | (simp; omega)), i + 1, by omega, by omega, le_mkSl rfl (by simp only [go_sem, hdw]; exact Hp.le_refl _) ?_⟩
                simp [-List.map_take, go_sem, wrap_up i _ hi' hal, hst, h7, argT, hxc]
            · refine brK_mk (fun h7 => ?_) (fun h7 => ?_) <;> simp only [go_sem, Int.natCast_nonneg, Nat.reduceEqDiff, Nat.reduceAdd, Nat.reduceSub, Nat.reduceLT, Nat.reduceMul, Nat.reduceBEq, Nat.reduceLeDiff, ↓reduceIte, Int.toNat_natCast, Int.reduceToNat, Int.toNat_zero, Int.toNat_one, not_true_eq_false, false_or, or_self, Nat.reduceGT, Option.isSome_some, Bool.and_self, Nat.zero_add, Nat.mul_one, List.length_map, List.take_length, Int.cast_ofNat_Int, Int.reduceLE, Int.reduceLT, Int.reduceGE, Int.reduceGT, Int.reduceEq, Int.reduceNe, Int.le_refl, Nat.le_refl, Nat.reduceAdd, ne_eq, not_false_eq_true, reduceCtorEq, beq_true, beq_false, BEq.rfl, Bool.not_true, Bool.not_false, decide_true, decide_false, exists_prop, h7, hdw]
              · refine ⟨(by first | omega | (simp; omega)), ?_⟩
                refine callX_by (rtype_calls hd l a.typ hat.1 hat.2 _) ?_
                rintro r hp2 ⟨rfl, rfl⟩
                simp only [go_sem, Int.natCast_nonneg, Nat.reduceEqDiff, Nat.reduceAdd, Nat.reduceSub, Nat.reduceLT, Nat.reduceMul, Nat.reduceBEq, Nat.reduceLeDiff, ↓reduceIte, Int.toNat_natCast, Int.reduceToNat, Int.toNat_zero, Int.toNat_one, not_true_eq_false, false_or, or_self, Nat.reduceGT, Option.isSome_some, Bool.and_self, Nat.zero_add, Nat.mul_one, List.length_map, List.take_length, Int.cast_ofNat_Int, Int.reduceLE, Int.reduceLT, Int.reduceGE, Int.reduceGT, Int.reduceEq, Int.reduceNe, Int.le_refl, Nat.le_refl, Nat.reduceAdd, ne_eq, not_false_eq_true, reduceCtorEq, beq_true, beq_false, BEq.rfl, Bool.not_true, Bool.not_false, decide_true, decide_false, exists_prop]
                refine ⟨(by first | omega | (simp; omega)), i + 1, by omega, by omega, le_mkSl rfl (by simp only [go_sem, hdw]; exact Hp.le_refl _) ?_⟩
                simp [-List.map_take, go_sem, wrap_up i _ hi' hal, hst, h7, argT, hxc]
              · refine callX_by (rtype_calls hd l a.typ hat.1 hat.2 _) ?_
                rintro r hp2 ⟨rfl, rfl⟩
                simp only [go_sem, Int.natCast_nonneg, Nat.reduceEqDiff, Nat.reduceAdd, Nat.reduceSub, Nat.reduceLT, Nat.reduceMul, Nat.reduceBEq, Nat.reduceLeDiff, ↓reduceIte, Int.toNat_natCast, Int.reduceToNat, Int.toNat_zero, Int.toNat_one, not_true_eq_false, false_or, or_self, Nat.reduceGT, Option.isSome_some, Bool.and_self, Nat.zero_add, Nat.mul_one, List.length_map, List.take_length, Int.cast_ofNat_Int, Int.reduceLE, Int.reduceLT, Int.reduceGE, Int.reduceGT, Int.reduceEq, Int.reduceNe, Int.le_refl, Nat.le_refl, Nat.reduceAdd, ne_eq, not_false_eq_true, reduceCtorEq, beq_true, beq_false, BEq.rfl, Bool.not_true, Bool.not_false, decide_true, decide_false, exists_prop]
                refine ⟨(by first | omega | (simp; omega)), i + 1, by omega, by omega, le_mkSl rfl (by simp only [go_sem, hdw]; exact Hp.le_refl _) ?_⟩
                simp [-List.map_take, go_sem, wrap_up i _ hi' hal, hst, h7, argT, hxc]
          · have e : i = x.args.length := by simp at h5; omega
            subst e
            simp only [go_sem, Int.natCast_nonneg, Nat.reduceEqDiff, Nat.reduceAdd, Nat.reduceSub, Nat.reduceLT, Nat.reduceMul, Nat.reduceBEq, Nat.reduceLeDiff, ↓reduceIte, Int.toNat_natCast, Int.reduceToNat, Int.toNat_zero, Int.toNat_one, not_true_eq_false, false_or, or_self, Nat.reduceGT, Option.isSome_some, Bool.and_self, Nat.zero_add, Nat.mul_one, List.length_map, List.take_length, Int.cast_ofNat_Int, Int.reduceLE, Int.reduceLT, Int.reduceGE, Int.reduceGT, Int.reduceEq, Int.reduceNe, Int.le_refl, Nat.le_refl, Nat.reduceAdd, ne_eq, not_false_eq_true, reduceCtorEq, beq_true, beq_false, BEq.rfl, Bool.not_true, Bool.not_false, decide_true, decide_false, exists_prop, h5]
            rw [List.take_length] at hJAl
            refine ⟨(by first | omega | (simp; omega)), j + 1, by omega, by omega, le_mkSl rfl (Hp.le_refl _) ?_⟩
            simp [-List.map_take, go_sem, wrap_up j _ hj' hxl, hstx, ← hB2, xtorT, hcd]
        · refine ⟨(by first | omega | (simp; omega)), (by first | omega | (simp; omega)), ?_⟩
          generalize hB2 : pre ++ J ++ x.name ++ [40] = B2
          have hB2l : B2.length ≤ 5500 := by rw [← hB2]; simp; omega
          refine aw_loopX 73 (fun i : Nat => [(0, .lst 3 hd (l.map DeclG.av)), (10, .lst 3 hd (l.map DeclG.av)), (11, .v (.int .i64 l.length)), (12, .v (.int .i64 k)), (5, .ref (.pointer (some ⟨v, 0, none⟩)) d.cs), (27, .lst 2 d.h (d.xtors.map XtorG.av)), (28, .v (.int .i64 d.xtors.length)), (29, .v (.int .i64 j)), (7, .ref (.pointer (some ⟨u, 0, none⟩)) x.cs),
              (3, .v (.string (bs (B2 ++ Lib.join ((x.args.take i).map (argT l)) [44, 32])))), (44, .lst 2 x.h (x.args.map ArgG.av)), (45, .v (.int .i64 x.args.length)), (46, .v (.int .i64 i))])
            (fun _ => hp) (fun i => i ≤ x.args.length) (fun i => x.args.length - i) 0
            (Nat.zero_le _) (le_mkSl rfl (by simp only [go_sem, hdu]; exact Hp.le_refl _) (by simp [go_sem, hcd, hxc, ← hB2, Lib.join_nil, h4])) ?_
          intro i hi
          have hJAl : (Lib.join ((x.args.take i).map (argT l)) [44, 32]).length ≤ 78 := joinA_len hs (x.args.take i) (by simp; omega)
          refine awp_sound (mu := []) _ _ _ ?_
          simp only [go_sem, Int.natCast_nonneg, Nat.reduceEqDiff, Nat.reduceAdd, Nat.reduceSub, Nat.reduceLT, Nat.reduceMul, Nat.reduceBEq, Nat.reduceLeDiff, ↓reduceIte, Int.toNat_natCast, Int.reduceToNat, Int.toNat_zero, Int.toNat_one, not_true_eq_false, false_or, or_self, Nat.reduceGT, Option.isSome_some, Bool.and_self, Nat.zero_add, Nat.mul_one, List.length_map, List.take_length, Int.cast_ofNat_Int, Int.reduceLE, Int.reduceLT, Int.reduceGE, Int.reduceGT, Int.reduceEq, Int.reduceNe, Int.le_refl, Nat.le_refl, Nat.reduceAdd, ne_eq, not_false_eq_true, reduceCtorEq, beq_true, beq_false, BEq.rfl, Bool.not_true, Bool.not_false, decide_true, decide_false, exists_prop]
          refine brK_mk (fun h5 => ?_) (fun h5 => ?_)
          · have hi' : i < x.args.length := by simpa using h5
            obtain ⟨a, ha⟩ := some_at x.args i hi'
            have hat := hs.ty d hmem x hxm a (List.mem_of_getElem? ha)
            have htl := typeName_len hs a.typ
            have hst := join_step (argT l) [44, 32] x.args i a ha
            generalize hJA : Lib.join ((x.args.take i).map (argT l)) [44, 32] = JA at hst hJAl
            simp only [go_sem, Int.natCast_nonneg, Nat.reduceEqDiff, Nat.reduceAdd, Nat.reduceSub, Nat.reduceLT, Nat.reduceMul, Nat.reduceBEq, Nat.reduceLeDiff, ↓reduceIte, Int.toNat_natCast, Int.reduceToNat, Int.toNat_zero, Int.toNat_one, not_true_eq_false, false_or, or_self, Nat.reduceGT, Option.isSome_some, Bool.and_self, Nat.zero_add, Nat.mul_one, List.length_map, List.take_length, Int.cast_ofNat_Int, Int.reduceLE, Int.reduceLT, Int.reduceGE, Int.reduceGT, Int.reduceEq, Int.reduceNe, Int.le_refl, Nat.le_refl, Nat.reduceAdd, ne_eq, not_false_eq_true, reduceCtorEq, beq_true, beq_false, BEq.rfl, Bool.not_true, Bool.not_false, decide_true, decide_false, exists_prop, h5, map_at ArgG.av _ _ _ ha, ArgG.av, ArgG.cs, hJA]
            intro w hw
            have hdw := fun T cs => Hp.del_set _ _ T cs hw.1
            refine brK_mk (fun h6 => ?_) (fun h6 => ?_) <;> simp only [go_sem, Int.natCast_nonneg, Nat.reduceEqDiff, Nat.reduceAdd, Nat.reduceSub, Nat.reduceLT, Nat.reduceMul, Nat.reduceBEq, Nat.reduceLeDiff, ↓reduceIte, Int.toNat_natCast, Int.reduceToNat, Int.toNat_zero, Int.toNat_one, not_true_eq_false, false_or, or_self, Nat.reduceGT, Option.isSome_some, Bool.and_self, Nat.zero_add, Nat.mul_one, List.length_map, List.take_length, Int.cast_ofNat_Int, Int.reduceLE, Int.reduceLT, Int.reduceGE, Int.reduceGT, Int.reduceEq, Int.reduceNe, Int.le_refl, Nat.le_refl, Nat.reduceAdd, ne_eq, not_false_eq_true, reduceCtorEq, beq_true, beq_false, BEq.rfl, Bool.not_true, Bool.not_false, decide_true, decide_false, exists_prop, h6, hdw] <;> rw [h6] at hst
            · refine ⟨(by first | omega | (simp; omega)), ?_⟩
              refine brK_mk (fun h7 => ?_) (fun h7 => ?_) <;> simp only [go_sem, Int.natCast_nonneg, Nat.reduceEqDiff, Nat.reduceAdd, Nat.reduceSub, Nat.reduceLT, Nat.reduceMul, Nat.reduceBEq, Nat.reduceLeDiff, ↓reduceIte, Int.toNat_natCast, Int.reduceToNat, Int.toNat_zero, Int.toNat_one, not_true_eq_false, false_or, or_self, Nat.reduceGT, Option.isSome_some, Bool.and_self, Nat.zero_add, Nat.mul_one, List.length_map, List.take_length, Int.cast_ofNat_Int, Int.reduceLE, Int.reduceLT, Int.reduceGE, Int.reduceGT, Int.reduceEq, Int.reduceNe, Int.le_refl, Nat.le_refl, Nat.reduceAdd, ne_eq, not_false_eq_true, reduceCtorEq, beq_true, beq_false, BEq.rfl, Bool.not_true, Bool.not_false, decide_true, decide_false, exists_prop, h7, hdw]
              · refine ⟨(by first | omega | (simp; omega)), ?_⟩
                refine callX_by (rtype_calls hd l a.typ hat.1 hat.2 _) ?_
                rintro r hp2 ⟨rfl, rfl⟩
                simp only [go_sem, Int.natCast_nonneg, Nat.reduceEqDiff, Nat.reduceAdd, Nat.reduceSub, Nat.reduceLT, Nat.reduceMul, Nat.reduceBEq, Nat.reduceLeDiff, ↓reduceIte, Int.toNat_natCast, Int.reduceToNat, Int.toNat_zero, Int.toNat_one, not_true_eq_false, false_or, or_self, Nat.reduceGT, Option.isSome_some, Bool.and_self, Nat.zero_add, Nat.mul_one, List.length_map, List.take_length, Int.cast_ofNat_Int, Int.reduceLE, Int.reduceLT, Int.reduceGE, Int.reduceGT, Int.reduceEq, Int.reduceNe, Int.le_refl, Nat.le_refl, Nat.reduceAdd, ne_eq, not_false_eq_true, reduceCtorEq, beq_true, beq_false, BEq.rfl, Bool.not_true, Bool.not_false, decide_true, decide_false, exists_prop]
                refine ⟨(by first | omega | (simp; omega)), i + 1, by omega, by omega, le_mkSl rfl (by simp only [go_sem, hdw]; exact Hp.le_refl _) ?_⟩
                simp [-List.map_take, go_sem, wrap_up i _ hi' hal, hst, h7, argT, hxc]
              · refine callX_by (rtype_calls hd l a.typ hat.1 hat.2 _) ?_
                rintro r hp2 ⟨rfl, rfl⟩
                simp only [go_sem, Int.natCast_nonneg, Nat.reduceEqDiff, Nat.reduceAdd, Nat.reduceSub, Nat.reduceLT, Nat.reduceMul, Nat.reduceBEq, Nat.reduceLeDiff, ↓reduceIte, Int.toNat_natCast, Int.reduceToNat, Int.toNat_zero, Int.toNat_one, not_true_eq_false, false_or, or_self, Nat.reduceGT, Option.isSome_some, Bool.and_self, Nat.zero_add, Nat.mul_one, List.length_map, List.take_length, Int.cast_ofNat_Int, Int.reduceLE, Int.reduceLT, Int.reduceGE, Int.reduceGT, Int.reduceEq, Int.reduceNe, Int.le_refl, Nat.le_refl, Nat.reduceAdd, ne_eq, not_false_eq_true, reduceCtorEq, beq_true, beq_false, BEq.rfl, Bool.not_true, Bool.not_false, decide_true, decide_false, exists_prop]
                refine ⟨(by first | omega | (simp; omega)), i + 1, by omega, by omega, le_mkSl rfl (by simp only [go_sem, hdw]; exact Hp.le_refl _) ?_⟩
                simp [-List.map_take, go_sem, wrap_up i _ hi' hal, hst, h7, argT, hxc]
            · refine brK_mk (fun h7 => ?_) (fun h7 => ?_) <;> simp only [go_sem, Int.natCast_nonneg, Nat.reduceEqDiff, Nat.reduceAdd, Nat.reduceSub, Nat.reduceLT, Nat.reduceMul, Nat.reduceBEq, Nat.reduceLeDiff, ↓reduceIte, Int.toNat_natCast, Int.reduceToNat, Int.toNat_zero, Int.toNat_one, not_true_eq_false, false_or, or_self, Nat.reduceGT, Option.isSome_some, Bool.and_self, Nat.zero_add, Nat.mul_one, List.length_map, List.take_length, Int.cast_ofNat_Int, Int.reduceLE, Int.reduceLT, Int.reduceGE, Int.reduceGT, Int.reduceEq, Int.reduceNe, Int.le_refl, Nat.le_refl, Nat.reduceAdd, ne_eq, not_false_eq_true, reduceCtorEq, beq_true, beq_false, BEq.rfl, Bool.not_true, Bool.not_false, decide_true, decide_false, exists_prop, h7, hdw]
              · refine ⟨(by first | omega | (simp; omega)), ?_⟩
                refine callX_by (rtype_calls hd l a.typ hat.1 hat.2 _) ?_
                rintro r hp2 ⟨rfl, rfl⟩
                simp only [go_sem, Int.natCast_nonneg, Nat.reduceEqDiff, Nat.reduceAdd, Nat.reduceSub, Nat.reduceLT, Nat.reduceMul, Nat.reduceBEq, Nat.reduceLeDiff, ↓reduceIte, Int.toNat_natCast, Int.reduceToNat, Int.toNat_zero, Int.toNat_one, not_true_eq_false, false_or, or_self, Nat.reduceGT, Option.isSome_some, Bool.and_self, Nat.zero_add, Nat.mul_one, List.length_map, List.take_length, Int.cast_ofNat_Int, Int.reduceLE, Int.reduceLT, Int.reduceGE, Int.reduceGT, Int.reduceEq, Int.reduceNe, Int.le_refl, Nat.le_refl, Nat.reduceAdd, ne_eq, not_false_eq_true, reduceCtorEq, beq_true, beq_false, BEq.rfl, Bool.not_true, Bool.not_false, decide_true, decide_false, exists_prop]
                refine ⟨(by first | omega | (simp; omega)), i + 1, by omega, by omega, le_mkSl rfl (by simp only [go_sem, hdw]; exact Hp.le_refl _) ?_⟩
                simp [-List.map_take, go_sem, wrap_up i _ hi' hal, hst, h7, argT, hxc]
              · refine callX_by (rtype_calls hd l a.typ hat.1 hat.2 _) ?_
                rintro r hp2 ⟨rfl, rfl⟩
                simp only [go_sem, Int.natCast_nonneg, Nat.reduceEqDiff, Nat.reduceAdd, Nat.reduceSub, Nat.reduceLT, Nat.reduceMul, Nat.reduceBEq, Nat.reduceLeDiff, ↓reduceIte, Int.toNat_natCast, Int.reduceToNat, Int.toNat_zero, Int.toNat_one, not_true_eq_false, false_or, or_self, Nat.reduceGT, Option.isSome_some, Bool.and_self, Nat.zero_add, Nat.mul_one, List.length_map, List.take_length, Int.cast_ofNat_Int, Int.reduceLE, Int.reduceLT, Int.reduceGE, Int.reduceGT, Int.reduceEq, Int.reduceNe, Int.le_refl, Nat.le_refl, Nat.reduceAdd, ne_eq, not_false_eq_true, reduceCtorEq, beq_true, beq_false, BEq.rfl, Bool.not_true, Bool.not_false, decide_true, decide_false, exists_prop]
                refine ⟨(by first | omega | (simp; omega)), i + 1, by omega, by omega, le_mkSl rfl (by simp only [go_sem, hdw]; exact Hp.le_refl _) ?_⟩
                simp [-List.map_take, go_sem, wrap_up i _ hi' hal, hst, h7, argT, hxc]
          · have e : i = x.args.length := by simp at h5; omega
            subst e
            simp only [go_sem, Int.natCast_nonneg, Nat.reduceEqDiff, Nat.reduceAdd, Nat.reduceSub, Nat.reduceLT, Nat.reduceMul, Nat.reduceBEq, Nat.reduceLeDiff, ↓reduceIte, Int.toNat_natCast, Int.reduceToNat, Int.toNat_zero, Int.toNat_one, not_true_eq_false, false_or, or_self, Nat.reduceGT, Option.isSome_some, Bool.and_self, Nat.zero_add, Nat.mul_one, List.length_map, List.take_length, Int.cast_ofNat_Int, Int.reduceLE, Int.reduceLT, Int.reduceGE, Int.reduceGT, Int.reduceEq, Int.reduceNe, Int.le_refl, Nat.le_refl, Nat.reduceAdd, ne_eq, not_false_eq_true, reduceCtorEq, beq_true, beq_false, BEq.rfl, Bool.not_true, Bool.not_false, decide_true, decide_false, exists_prop, h5]
            rw [List.take_length] at hJAl
            refine ⟨(by first | omega | (simp; omega)), j + 1, by omega, by omega, le_mkSl rfl (Hp.le_refl _) ?_⟩
            simp [-List.map_take, go_sem, wrap_up j _ hj' hxl, hstx, ← hB2, xtorT, hcd]
      · have e : j = d.xtors.length := by simp at h3; omega
        subst e
        simp only [go_sem, Int.natCast_nonneg, Nat.reduceEqDiff, Nat.reduceAdd, Nat.reduceSub, Nat.reduceLT, Nat.reduceMul, Nat.reduceBEq, Nat.reduceLeDiff, ↓reduceIte, Int.toNat_natCast, Int.reduceToNat, Int.toNat_zero, Int.toNat_one, not_true_eq_false, false_or, or_self, Nat.reduceGT, Option.isSome_some, Bool.and_self, Nat.zero_add, Nat.mul_one, List.length_map, List.take_length, Int.cast_ofNat_Int, Int.reduceLE, Int.reduceLT, Int.reduceGE, Int.reduceGT, Int.reduceEq, Int.reduceNe, Int.le_refl, Nat.le_refl, Nat.reduceAdd, ne_eq, not_false_eq_true, reduceCtorEq, beq_true, beq_false, BEq.rfl, Bool.not_true, Bool.not_false, decide_true, decide_false, exists_prop, h3]
        rw [List.take_length] at hJl
        refine ⟨(by first | omega | (simp; omega)), k + 1, by omega, by omega, le_mkSl rfl (Hp.le_refl _) ?_⟩
        simp [go_sem, wrap_up k _ hk' hl.len, htd]
    · refine ⟨(by first | omega | (simp; omega)), (by first | omega | (simp; omega)), (by first | omega | (simp; omega)), ?_⟩
      refine aw_loopX 73 (fun j : Nat => [(0, .lst 3 hd (l.map DeclG.av)), (10, .lst 3 hd (l.map DeclG.av)), (11, .v (.int .i64 l.length)), (12, .v (.int .i64 k)), (5, .ref (.pointer (some ⟨v, 0, none⟩)) d.cs), (3, .v (.string (bs (pre ++ Lib.join ((d.xtors.take j).map (xtorT l)) [44, 32])))), (27, .lst 2 d.h (d.xtors.map XtorG.av)), (28, .v (.int .i64 d.xtors.length)), (29, .v (.int .i64 j))])
        (fun _ => hp) (fun j => j ≤ d.xtors.length) (fun j => d.xtors.length - j) 0
        (Nat.zero_le _) (le_mkSl rfl (by simp only [go_sem, hds]; exact Hp.le_refl _) (by simp [go_sem, hcd, h2, ← hpre, wordT, Lib.join_nil, List.append_assoc])) ?_
      intro j hj
      have hJl : (Lib.join ((d.xtors.take j).map (xtorT l)) [44, 32]).length ≤ 552 := by
        have := join_len 90 [44, 32] ((d.xtors.take j).map (xtorT l)) (fun x hx => by obtain ⟨a, ha, rfl⟩ := List.mem_map.1 hx; exact xtorT_len hs hmem (List.mem_of_mem_take ha))
        have h6 : ((d.xtors.take j).map (xtorT l)).length ≤ 6 := by simp; omega
        simp only [List.length_cons, List.length_nil] at this; omega
      refine awp_sound (mu := []) _ _ _ ?_
      simp only [go_sem, Int.natCast_nonneg, Nat.reduceEqDiff, Nat.reduceAdd, Nat.reduceSub, Nat.reduceLT, Nat.reduceMul, Nat.reduceBEq, Nat.reduceLeDiff, ↓reduceIte, Int.toNat_natCast, Int.reduceToNat, Int.toNat_zero, Int.toNat_one, not_true_eq_false, false_or, or_self, Nat.reduceGT, Option.isSome_some, Bool.and_self, Nat.zero_add, Nat.mul_one, List.length_map, List.take_length, Int.cast_ofNat_Int, Int.reduceLE, Int.reduceLT, Int.reduceGE, Int.reduceGT, Int.reduceEq, Int.reduceNe, Int.le_refl, Nat.le_refl, Nat.reduceAdd, ne_eq, not_false_eq_true, reduceCtorEq, beq_true, beq_false, BEq.rfl, Bool.not_true, Bool.not_false, decide_true, decide_false, exists_prop]
      refine brK_mk (fun h3 => ?_) (fun h3 => ?_)
      · have hj' : j < d.xtors.length := by simpa using h3
        obtain ⟨x, hx⟩ := some_at d.xtors j hj'
        have hxm := List.mem_of_getElem? hx
        have hal := hl.ar d hmem x hxm
        have hxc : x.cs = [.v (.string (bs x.name)), .lst 2 x.h (x.args.map ArgG.av)] := rfl
        have hxn := hs.xname d hmem x hxm
        have hx6 := hs.ar d hmem x hxm
        have hstx := join_step (xtorT l) [44, 32] d.xtors j x hx
        generalize hJ : Lib.join ((d.xtors.take j).map (xtorT l)) [44, 32] = J at hstx hJl
        simp only [go_sem, Int.natCast_nonneg, Nat.reduceEqDiff, Nat.reduceAdd, Nat.reduceSub, Nat.reduceLT, Nat.reduceMul, Nat.reduceBEq, Nat.reduceLeDiff, ↓reduceIte, Int.toNat_natCast, Int.reduceToNat, Int.toNat_zero, Int.toNat_one, not_true_eq_false, false_or, or_self, Nat.reduceGT, Option.isSome_some, Bool.and_self, Nat.zero_add, Nat.mul_one, List.length_map, List.take_length, Int.cast_ofNat_Int, Int.reduceLE, Int.reduceLT, Int.reduceGE, Int.reduceGT, Int.reduceEq, Int.reduceNe, Int.le_refl, Nat.le_refl, Nat.reduceAdd, ne_eq, not_false_eq_true, reduceCtorEq, beq_true, beq_false, BEq.rfl, Bool.not_true, Bool.not_false, decide_true, decide_false, exists_prop, h3, map_at XtorG.av _ _ _ hx, XtorG.av, XtorG.cs, hJ]
        intro u hu
        have hdu := fun T cs => Hp.del_set _ _ T cs hu.1
        refine brK_mk (fun h4 => ?_) (fun h4 => ?_) <;> simp only [go_sem, Int.natCast_nonneg, Nat.reduceEqDiff, Nat.reduceAdd, Nat.reduceSub, Nat.reduceLT, Nat.reduceMul, Nat.reduceBEq, Nat.reduceLeDiff, ↓reduceIte, Int.toNat_natCast, Int.reduceToNat, Int.toNat_zero, Int.toNat_one, not_true_eq_false, false_or, or_self, Nat.reduceGT, Option.isSome_some, Bool.and_self, Nat.zero_add, Nat.mul_one, List.length_map, List.take_length, Int.cast_ofNat_Int, Int.reduceLE, Int.reduceLT, Int.reduceGE, Int.reduceGT, Int.reduceEq, Int.reduceNe, Int.le_refl, Nat.le_refl, Nat.reduceAdd, ne_eq, not_false_eq_true, reduceCtorEq, beq_true, beq_false, BEq.rfl, Bool.not_true, Bool.not_false, decide_true, decide_false, exists_prop, h4, hdu] <;> rw [h4] at hstx
        · refine ⟨(by first | omega | (simp; omega)), (by first | omega | (simp; omega)), (by first | omega | (simp; omega)), ?_⟩
          generalize hB2 : pre ++ J ++ [44, 32] ++ x.name ++ [40] = B2
          have hB2l : B2.length ≤ 5500 := by rw [← hB2]; simp; omega
          refine aw_loopX 73 (fun i : Nat => [(0, .lst 3 hd (l.map DeclG.av)), (10, .lst 3 hd (l.map DeclG.av)), (11, .v (.int .i64 l.length)), (12, .v (.int .i64 k)), (5, .ref (.pointer (some ⟨v, 0, none⟩)) d.cs), (27, .lst 2 d.h (d.xtors.map XtorG.av)), (28, .v (.int .i64 d.xtors.length)), (29, .v (.int .i64 j)), (7, .ref (.pointer (some ⟨u, 0, none⟩)) x.cs),
              (3, .v (.string (bs (B2 ++ Lib.join ((x.args.take i).map (argT l)) [44, 32])))), (44, .lst 2 x.h (x.args.map ArgG.av)), (45, .v (.int .i64 x.args.length)), (46, .v (.int .i64 i))])
            (fun _ => hp) (fun i => i ≤ x.args.length) (fun i => x.args.length - i) 0
            (Nat.zero_le _) (le_mkSl rfl (by simp only [go_sem, hdu]; exact Hp.le_refl _) (by simp [go_sem, hcd, hxc, ← hB2, Lib.join_nil, h4])) ?_
          intro i hi
          have hJAl : (Lib.join ((x.args.take i).map (argT l)) [44, 32]).length ≤ 78 := joinA_len hs (x.args.take i) (by simp; omega)
          refine awp_sound (mu := []) _ _ _ ?_
          simp only [go_sem, Int.natCast_nonneg, Nat.reduceEqDiff, Nat.reduceAdd, Nat.reduceSub, Nat.reduceLT, Nat.reduceMul, Nat.reduceBEq, Nat.reduceLeDiff, ↓reduceIte, Int.toNat_natCast, Int.reduceToNat, Int.toNat_zero, Int.toNat_one, not_true_eq_false, false_or, or_self, Nat.reduceGT, Option.isSome_some, Bool.and_self, Nat.zero_add, Nat.mul_one, List.length_map, List.take_length, Int.cast_ofNat_Int, Int.reduceLE, Int.reduceLT, Int.reduceGE, Int.reduceGT, Int.reduceEq, Int.reduceNe, Int.le_refl, Nat.le_refl, Nat.reduceAdd, ne_eq, not_false_eq_true, reduceCtorEq, beq_true, beq_false, BEq.rfl, Bool.not_true, Bool.not_false, decide_true, decide_false, exists_prop]
          refine brK_mk (fun h5 => ?_) (fun h5 => ?_)
          · have hi' : i < x.args.length := by simpa using h5
            obtain ⟨a, ha⟩ := some_at x.args i hi'
            have hat := hs.ty d hmem x hxm a (List.mem_of_getElem? ha)
            have htl := typeName_len hs a.typ
            have hst := join_step (argT l) [44, 32] x.args i a ha
            generalize hJA : Lib.join ((x.args.take i).map (argT l)) [44, 32] = JA at hst hJAl
            simp only [go_sem, Int.natCast_nonneg, Nat.reduceEqDiff, Nat.reduceAdd, Nat.reduceSub, Nat.reduceLT, Nat.reduceMul, Nat.reduceBEq, Nat.reduceLeDiff, ↓reduceIte, Int.toNat_natCast, Int.reduceToNat, Int.toNat_zero, Int.toNat_one, not_true_eq_false, false_or, or_self, Nat.reduceGT, Option.isSome_some, Bool.and_self, Nat.zero_add, Nat.mul_one, List.length_map, List.take_length, Int.cast_ofNat_Int, Int.reduceLE, Int.reduceLT, Int.reduceGE, Int.reduceGT, Int.reduceEq, Int.reduceNe, Int.le_refl, Nat.le_refl, Nat.reduceAdd, ne_eq, not_false_eq_true, reduceCtorEq, beq_true, beq_false, BEq.rfl, Bool.not_true, Bool.not_false, decide_true, decide_false, exists_prop, h5, map_at ArgG.av _ _ _ ha, ArgG.av, ArgG.cs, hJA]
            intro w hw
            have hdw := fun T cs => Hp.del_set _ _ T cs hw.1
            refine brK_mk (fun h6 => ?_) (fun h6 => ?_) <;> simp only [go_sem, Int.natCast_nonneg, Nat.reduceEqDiff, Nat.reduceAdd, Nat.reduceSub, Nat.reduceLT, Nat.reduceMul, Nat.reduceBEq, Nat.reduceLeDiff, ↓reduceIte, Int.toNat_natCast, Int.reduceToNat, Int.toNat_zero, Int.toNat_one, not_true_eq_false, false_or, or_self, Nat.reduceGT, Option.isSome_some, Bool.and_self, Nat.zero_add, Nat.mul_one, List.length_map, List.take_length, Int.cast_ofNat_Int, Int.reduceLE, Int.reduceLT, Int.reduceGE, Int.reduceGT, Int.reduceEq, Int.reduceNe, Int.le_refl, Nat.le_refl, Nat.reduceAdd, ne_eq, not_false_eq_true, reduceCtorEq, beq_true, beq_false, BEq.rfl, Bool.not_true, Bool.not_false, decide_true, decide_false, exists_prop, h6, hdw] <;> rw [h6] at hst
            · refine ⟨(by first | omega | (simp; omega)), ?_⟩
              refine brK_mk (fun h7 => ?_) (fun h7 => ?_) <;> simp only [go_sem, Int.natCast_nonneg, Nat.reduceEqDiff, Nat.reduceAdd, Nat.reduceSub, Nat.reduceLT, Nat.reduceMul, Nat.reduceBEq, Nat.reduceLeDiff, ↓reduceIte, Int.toNat_natCast, Int.reduceToNat, Int.toNat_zero, Int.toNat_one, not_true_eq_false, false_or, or_self, Nat.reduceGT, Option.isSome_some, Bool.and_self, Nat.zero_add, Nat.mul_one, List.length_map, List.take_length, Int.cast_ofNat_Int, Int.reduceLE, Int.reduceLT, Int.reduceGE, Int.reduceGT, Int.reduceEq, Int.reduceNe, Int.le_refl, Nat.le_refl, Nat.reduceAdd, ne_eq, not_false_eq_true, reduceCtorEq, beq_true, beq_false, BEq.rfl, Bool.not_true, Bool.not_false, decide_true, decide_false, exists_prop, h7, hdw]
              · refine ⟨(by first | omega | (simp; omega)), ?_⟩
                refine callX_by (rtype_calls hd l a.typ hat.1 hat.2 _) ?_
                rintro r hp2 ⟨rfl, rfl⟩
                simp only [go_sem, Int.natCast_nonneg, Nat.reduceEqDiff, Nat.reduceAdd, Nat.reduceSub, Nat.reduceLT, Nat.reduceMul, Nat.reduceBEq, Nat.reduceLeDiff, ↓reduceIte, Int.toNat_natCast, Int.reduceToNat, Int.toNat_zero, Int.toNat_one, not_true_eq_false, false_or, or_self, Nat.reduceGT, Option.isSome_some, Bool.and_self, Nat.zero_add, Nat.mul_one, List.length_map, List.take_length, Int.cast_ofNat_Int, Int.reduceLE, Int.reduceLT, Int.reduceGE, Int.reduceGT, Int.reduceEq, Int.reduceNe, Int.le_refl, Nat.le_refl, Nat.reduceAdd, ne_eq, not_false_eq_true, reduceCtorEq, beq_true, beq_false, BEq.rfl, Bool.not_true, Bool.not_false, decide_true, decide_false, exists_prop]
                refine ⟨(by first | omega | (simp; omega)), i + 1, by omega, by omega, le_mkSl rfl (by simp only [go_sem, hdw]; exact Hp.le_refl _) ?_⟩
                simp [-List.map_take, go_sem, wrap_up i _ hi' hal, hst, h7, argT, hxc]
              · refine callX_by (rtype_calls hd l a.typ hat.1 hat.2 _) ?_
                rintro r hp2 ⟨rfl, rfl⟩
                simp only [go_sem, Int.natCast_nonneg, Nat.reduceEqDiff, Nat.reduceAdd, Nat.reduceSub, Nat.reduceLT, Nat.reduceMul, Nat.reduceBEq, Nat.reduceLeDiff, ↓reduceIte, Int.toNat_natCast, Int.reduceToNat, Int.toNat_zero, Int.toNat_one, not_true_eq_false, false_or, or_self, Nat.reduceGT, Option.isSome_some, Bool.and_self, Nat.zero_add, Nat.mul_one, List.length_map, List.take_length, Int.cast_ofNat_Int, Int.reduceLE, Int.reduceLT, Int.reduceGE, Int.reduceGT, Int.reduceEq, Int.reduceNe, Int.le_refl, Nat.le_refl, Nat.reduceAdd, ne_eq, not_false_eq_true, reduceCtorEq, beq_true, beq_false, BEq.rfl, Bool.not_true, Bool.not_false, decide_true, decide_false, exists_prop]
                refine ⟨(by first | omega | (simp; omega)), i + 1, by omega, by omega, le_mkSl rfl (by simp only [go_sem, hdw]; exact Hp.le_refl _) ?_⟩
                simp [-List.map_take, go_sem, wrap_up i _ hi' hal, hst, h7, argT, hxc]
            · refine brK_mk (fun h7 => ?_) (fun h7 => ?_) <;> simp only [go_sem, Int.natCast_nonneg, Nat.reduceEqDiff, Nat.reduceAdd, Nat.reduceSub, Nat.reduceLT, Nat.reduceMul, Nat.reduceBEq, Nat.reduceLeDiff, ↓reduceIte, Int.toNat_natCast, Int.reduceToNat, Int.toNat_zero, Int.toNat_one, not_true_eq_false, false_or, or_self, Nat.reduceGT, Option.isSome_some, Bool.and_self, Nat.zero_add, Nat.mul_one, List.length_map, List.take_length, Int.cast_ofNat_Int, Int.reduceLE, Int.reduceLT, Int.reduceGE, Int.reduceGT, Int.reduceEq, Int.reduceNe, Int.le_refl, Nat.le_refl, Nat.reduceAdd, ne_eq, not_false_eq_true, reduceCtorEq, beq_true, beq_false, BEq.rfl, Bool.not_true, Bool.not_false, decide_true, decide_false, exists_prop, h7, hdw]
              · refine ⟨(by first | omega | (simp; omega)), ?_⟩
                refine callX_by (rtype_calls hd l a.typ hat.1 hat.2 _) ?_
                rintro r hp2 ⟨rfl, rfl⟩
                simp only [go_sem, Int.natCast_nonneg, Nat.reduceEqDiff, Nat.reduceAdd, Nat.reduceSub, Nat.reduceLT, Nat.reduceMul, Nat.reduceBEq, Nat.reduceLeDiff, ↓reduceIte, Int.toNat_natCast, Int.reduceToNat, Int.toNat_zero, Int.toNat_one, not_true_eq_false, false_or, or_self, Nat.reduceGT, Option.isSome_some, Bool.and_self, Nat.zero_add, Nat.mul_one, List.length_map, List.take_length, Int.cast_ofNat_Int, Int.reduceLE, Int.reduceLT, Int.reduceGE, Int.reduceGT, Int.reduceEq, Int.reduceNe, Int.le_refl, Nat.le_refl, Nat.reduceAdd, ne_eq, not_false_eq_true, reduceCtorEq, beq_true, beq_false, BEq.rfl, Bool.not_true, Bool.not_false, decide_true, decide_false, exists_prop]
                refine ⟨(by first | omega | (simp; omega)), i + 1, by omega, by omega, le_mkSl rfl (by simp only [go_sem, hdw]; exact Hp.le_refl _) ?_⟩
                simp [-List.map_take, go_sem, wrap_up i _ hi' hal, hst, h7, argT, hxc]
              · refine callX_by (rtype_calls hd l a.typ hat.1 hat.2 _) ?_
                rintro r hp2 ⟨rfl, rfl⟩
                simp only [go_sem, Int.natCast_nonneg, Nat.reduceEqDiff, Nat.reduceAdd, Nat.reduceSub, Nat.reduceLT, Nat.reduceMul, Nat.reduceBEq, Nat.reduceLeDiff, ↓reduceIte, Int.toNat_natCast, Int.reduceToNat, Int.toNat_zero, Int.toNat_one, not_true_eq_false, false_or, or_self, Nat.reduceGT, Option.isSome_some, Bool.and_self, Nat.zero_add, Nat.mul_one, List.length_map, List.take_length, Int.cast_ofNat_Int, Int.reduceLE, Int.reduceLT, Int.reduceGE, Int.reduceGT, Int.reduceEq, Int.reduceNe, Int.le_refl, Nat.le_refl, Nat.reduceAdd, ne_eq, not_false_eq_true, reduceCtorEq, beq_true, beq_false, BEq.rfl, Bool.not_true, Bool.not_false, decide_true, decide_false, exists_prop]
                refine ⟨(by first | omega | (simp; omega)), i + 1, by omega, by omega, le_mkSl rfl (by simp only [go_sem, hdw]; exact Hp.le_refl _) ?_⟩
                simp [-List.map_take, go_sem, wrap_up i _ hi' hal, hst, h7, argT, hxc]
          · have e : i = x.args.length := by simp at h5; omega
            subst e
            simp only [go_sem, Int.natCast_nonneg, Nat.reduceEqDiff, Nat.reduceAdd, Nat.reduceSub, Nat.reduceLT, Nat.reduceMul, Nat.reduceBEq, Nat.reduceLeDiff, ↓reduceIte, Int.toNat_natCast, Int.reduceToNat, Int.toNat_zero, Int.toNat_one, not_true_eq_false, false_or, or_self, Nat.reduceGT, Option.isSome_some, Bool.and_self, Nat.zero_add, Nat.mul_one, List.length_map, List.take_length, Int.cast_ofNat_Int, Int.reduceLE, Int.reduceLT, Int.reduceGE, Int.reduceGT, Int.reduceEq, Int.reduceNe, Int.le_refl, Nat.le_refl, Nat.reduceAdd, ne_eq, not_false_eq_true, reduceCtorEq, beq_true, beq_false, BEq.rfl, Bool.not_true, Bool.not_false, decide_true, decide_false, exists_prop, h5]
            rw [List.take_length] at hJAl
            refine ⟨(by first | omega | (simp; omega)), j + 1, by omega, by omega, le_mkSl rfl (Hp.le_refl _) ?_⟩
            simp [-List.map_take, go_sem, wrap_up j _ hj' hxl, hstx, ← hB2, xtorT, hcd]
        · refine ⟨(by first | omega | (simp; omega)), (by first | omega | (simp; omega)), ?_⟩
          generalize hB2 : pre ++ J ++ x.name ++ [40] = B2
          have hB2l : B2.length ≤ 5500 := by rw [← hB2]; simp; omega
          refine aw_loopX 73 (fun i : Nat => [(0, .lst 3 hd (l.map DeclG.av)), (10, .lst 3 hd (l.map DeclG.av)), (11, .v (.int .i64 l.length)), (12, .v (.int .i64 k)), (5, .ref (.pointer (some ⟨v, 0, none⟩)) d.cs), (27, .lst 2 d.h (d.xtors.map XtorG.av)), (28, .v (.int .i64 d.xtors.length)), (29, .v (.int .i64 j)), (7, .ref (.pointer (some ⟨u, 0, none⟩)) x.cs),
              (3, .v (.string (bs (B2 ++ Lib.join ((x.args.take i).map (argT l)) [44, 32])))), (44, .lst 2 x.h (x.args.map ArgG.av)), (45, .v (.int .i64 x.args.length)), (46, .v (.int .i64 i))])
            (fun _ => hp) (fun i => i ≤ x.args.length) (fun i => x.args.length - i) 0
            (Nat.zero_le _) (le_mkSl rfl (by simp only [go_sem, hdu]; exact Hp.le_refl _) (by simp [go_sem, hcd, hxc, ← hB2, Lib.join_nil, h4])) ?_
          intro i hi
          have hJAl : (Lib.join ((x.args.take i).map (argT l)) [44, 32]).length ≤ 78 := joinA_len hs (x.args.take i) (by simp; omega)
          refine awp_sound (mu := []) _ _ _ ?_
          simp only [go_sem, Int.natCast_nonneg, Nat.reduceEqDiff, Nat.reduceAdd, Nat.reduceSub, Nat.reduceLT, Nat.reduceMul, Nat.reduceBEq, Nat.reduceLeDiff, ↓reduceIte, Int.toNat_natCast, Int.reduceToNat, Int.toNat_zero, Int.toNat_one, not_true_eq_false, false_or, or_self, Nat.reduceGT, Option.isSome_some, Bool.and_self, Nat.zero_add, Nat.mul_one, List.length_map, List.take_length, Int.cast_ofNat_Int, Int.reduceLE, Int.reduceLT, Int.reduceGE, Int.reduceGT, Int.reduceEq, Int.reduceNe, Int.le_refl, Nat.le_refl, Nat.reduceAdd, ne_eq, not_false_eq_true, reduceCtorEq, beq_true, beq_false, BEq.rfl, Bool.not_true, Bool.not_false, decide_true, decide_false, exists_prop]
          refine brK_mk (fun h5 => ?_) (fun h5 => ?_)
          · have hi' : i < x.args.length := by simpa using h5
            obtain ⟨a, ha⟩ := some_at x.args i hi'
            have hat := hs.ty d hmem x hxm a (List.mem_of_getElem? ha)
            have htl := typeName_len hs a.typ
            have hst := join_step (argT l) [44, 32] x.args i a ha
            generalize hJA : Lib.join ((x.args.take i).map (argT l)) [44, 32] = JA at hst hJAl
            simp only [go_sem, Int.natCast_nonneg, Nat.reduceEqDiff, Nat.reduceAdd, Nat.reduceSub, Nat.reduceLT, Nat.reduceMul, Nat.reduceBEq, Nat.reduceLeDiff, ↓reduceIte, Int.toNat_natCast, Int.reduceToNat, Int.toNat_zero, Int.toNat_one, not_true_eq_false, false_or, or_self, Nat.reduceGT, Option.isSome_some, Bool.and_self, Nat.zero_add, Nat.mul_one, List.length_map, List.take_length, Int.cast_ofNat_Int, Int.reduceLE, Int.reduceLT, Int.reduceGE, Int.reduceGT, Int.reduceEq, Int.reduceNe, Int.le_refl, Nat.le_refl, Nat.reduceAdd, ne_eq, not_false_eq_true, reduceCtorEq, beq_true, beq_false, BEq.rfl, Bool.not_true, Bool.not_false, decide_true, decide_false, exists_prop, h5, map_at ArgG.av _ _ _ ha, ArgG.av, ArgG.cs, hJA]
            intro w hw
            have hdw := fun T cs => Hp.del_set _ _ T cs hw.1
            refine brK_mk (fun h6 => ?_) (fun h6 => ?_) <;> simp only [go_sem, Int.natCast_nonneg, Nat.reduceEqDiff, Nat.reduceAdd, Nat.reduceSub, Nat.reduceLT, Nat.reduceMul, Nat.reduceBEq, Nat.reduceLeDiff, ↓reduceIte, Int.toNat_natCast, Int.reduceToNat, Int.toNat_zero, Int.toNat_one, not_true_eq_false, false_or, or_self, Nat.reduceGT, Option.isSome_some, Bool.and_self, Nat.zero_add, Nat.mul_one, List.length_map, List.take_length, Int.cast_ofNat_Int, Int.reduceLE, Int.reduceLT, Int.reduceGE, Int.reduceGT, Int.reduceEq, Int.reduceNe, Int.le_refl, Nat.le_refl, Nat.reduceAdd, ne_eq, not_false_eq_true, reduceCtorEq, beq_true, beq_false, BEq.rfl, Bool.not_true, Bool.not_false, decide_true, decide_false, exists_prop, h6, hdw] <;> rw [h6] at hst
            · refine ⟨(by first | omega | (simp; omega)), ?_⟩
              refine brK_mk (fun h7 => ?_) (fun h7 => ?_) <;> simp only [go_sem, Int.natCast_nonneg, Nat.reduceEqDiff, Nat.reduceAdd, Nat.reduceSub, Nat.reduceLT, Nat.reduceMul, Nat.reduceBEq, Nat.reduceLeDiff, ↓reduceIte, Int.toNat_natCast, Int.reduceToNat, Int.toNat_zero, Int.toNat_one, not_true_eq_false, false_or, or_self, Nat.reduceGT, Option.isSome_some, Bool.and_self, Nat.zero_add, Nat.mul_one, List.length_map, List.take_length, Int.cast_ofNat_Int, Int.reduceLE, Int.reduceLT, Int.reduceGE, Int.reduceGT, Int.reduceEq, Int.reduceNe, Int.le_refl, Nat.le_refl, Nat.reduceAdd, ne_eq, not_false_eq_true, reduceCtorEq, beq_true, beq_false, BEq.rfl, Bool.not_true, Bool.not_false, decide_true, decide_false, exists_prop, h7, hdw]
              · refine ⟨(by first | omega | (simp; omega)), ?_⟩
                refine callX_by (rtype_calls hd l a.typ hat.1 hat.2 _) ?_
                rintro r hp2 ⟨rfl, rfl⟩
                simp only [go_sem, Int.natCast_nonneg, Nat.reduceEqDiff, Nat.reduceAdd, Nat.reduceSub, Nat.reduceLT, Nat.reduceMul, Nat.reduceBEq, Nat.reduceLeDiff, ↓reduceIte, Int.toNat_natCast, Int.reduceToNat, Int.toNat_zero, Int.toNat_one, not_true_eq_false, false_or, or_self, Nat.reduceGT, Option.isSome_some, Bool.and_self, Nat.zero_add, Nat.mul_one, List.length_map, List.take_length, Int.cast_ofNat_Int, Int.reduceLE, Int.reduceLT, Int.reduceGE, Int.reduceGT, Int.reduceEq, Int.reduceNe, Int.le_refl, Nat.le_refl, Nat.reduceAdd, ne_eq, not_false_eq_true, reduceCtorEq, beq_true, beq_false, BEq.rfl, Bool.not_true, Bool.not_false, decide_true, decide_false, exists_prop]
                refine ⟨(by first | omega | (simp; omega)), i + 1, by omega, by omega, le_mkSl rfl (by simp only [go_sem, hdw]; exact Hp.le_refl _) ?_⟩
                simp [-List.map_take, go_sem, wrap_up i _ hi' hal, hst, h7, argT, hxc]
              · refine callX_by (rtype_calls hd l a.typ hat.1 hat.2 _) ?_
                rintro r hp2 ⟨rfl, rfl⟩
                simp only [go_sem, Int.natCast_nonneg, Nat.reduceEqDiff, Nat.reduceAdd, Nat.reduceSub, Nat.reduceLT, Nat.reduceMul, Nat.reduceBEq, Nat.reduceLeDiff, ↓reduceIte, Int.toNat_natCast, Int.reduceToNat, Int.toNat_zero, Int.toNat_one, not_true_eq_false, false_or, or_self, Nat.reduceGT, Option.isSome_some, Bool.and_self, Nat.zero_add, Nat.mul_one, List.length_map, List.take_length, Int.cast_ofNat_Int, Int.reduceLE, Int.reduceLT, Int.reduceGE, Int.reduceGT, Int.reduceEq, Int.reduceNe, Int.le_refl, Nat.le_refl, Nat.reduceAdd, ne_eq, not_false_eq_true, reduceCtorEq, beq_true, beq_false, BEq.rfl, Bool.not_true, Bool.not_false, decide_true, decide_false, exists_prop]
                refine ⟨(by first | omega | (simp; omega)), i + 1, by omega, by omega, le_mkSl rfl (by simp only [go_sem, hdw]; exact Hp.le_refl _) ?_⟩
                simp [-List.map_take, go_sem, wrap_up i _ hi' hal, hst, h7, argT, hxc]
            · refine brK_mk (fun h7 => ?_) (fun h7 => ?_) <;> simp only [go_sem, Int.natCast_nonneg, Nat.reduceEqDiff, Nat.reduceAdd, Nat.reduceSub, Nat.reduceLT, Nat.reduceMul, Nat.reduceBEq, Nat.reduceLeDiff, ↓reduceIte, Int.toNat_natCast, Int.reduceToNat, Int.toNat_zero, Int.toNat_one, not_true_eq_false, false_or, or_self, Nat.reduceGT, Option.isSome_some, Bool.and_self, Nat.zero_add, Nat.mul_one, List.length_map, List.take_length, Int.cast_ofNat_Int, Int.reduceLE, Int.reduceLT, Int.reduceGE, Int.reduceGT, Int.reduceEq, Int.reduceNe, Int.le_refl, Nat.le_refl, Nat.reduceAdd, ne_eq, not_false_eq_true, reduceCtorEq, beq_true, beq_false, BEq.rfl, Bool.not_true, Bool.not_false, decide_true, decide_false, exists_prop, h7, hdw]
              · refine ⟨(by first | omega | (simp; omega)), ?_⟩
                refine callX_by (rtype_calls hd l a.typ hat.1 hat.2 _) ?_
                rintro r hp2 ⟨rfl, rfl⟩
                simp only [go_sem, Int.natCast_nonneg, Nat.reduceEqDiff, Nat.reduceAdd, Nat.reduceSub, Nat.reduceLT, Nat.reduceMul, Nat.reduceBEq, Nat.reduceLeDiff, ↓reduceIte, Int.toNat_natCast, Int.reduceToNat, Int.toNat_zero, Int.toNat_one, not_true_eq_false, false_or, or_self, Nat.reduceGT, Option.isSome_some, Bool.and_self, Nat.zero_add, Nat.mul_one, List.length_map, List.take_length, Int.cast_ofNat_Int, Int.reduceLE, Int.reduceLT, Int.reduceGE, Int.reduceGT, Int.reduceEq, Int.reduceNe, Int.le_refl, Nat.le_refl, Nat.reduceAdd, ne_eq, not_false_eq_true, reduceCtorEq, beq_true, beq_false, BEq.rfl, Bool.not_true, Bool.not_false, decide_true, decide_false, exists_prop]
                refine ⟨(by first | omega | (simp; omega)), i + 1, by omega, by omega, le_mkSl rfl (by simp only [go_sem, hdw]; exact Hp.le_refl _) ?_⟩
                simp [-List.map_take, go_sem, wrap_up i _ hi' hal, hst, h7, argT, hxc]
              · refine callX_by (rtype_calls hd l a.typ hat.1 hat.2 _) ?_
                rintro r hp2 ⟨rfl, rfl⟩
                simp only [go_sem, Int.natCast_nonneg, Nat.reduceEqDiff, Nat.reduceAdd, Nat.reduceSub, Nat.reduceLT, Nat.reduceMul, Nat.reduceBEq, Nat.reduceLeDiff, ↓reduceIte, Int.toNat_natCast, Int.reduceToNat, Int.toNat_zero, Int.toNat_one, not_true_eq_false, false_or, or_self, Nat.reduceGT, Option.isSome_some, Bool.and_self, Nat.zero_add, Nat.mul_one, List.length_map, List.take_length, Int.cast_ofNat_Int, Int.reduceLE, Int.reduceLT, Int.reduceGE, Int.reduceGT, Int.reduceEq, Int.reduceNe, Int.le_refl, Nat.le_refl, Nat.reduceAdd, ne_eq, not_false_eq_true, reduceCtorEq, beq_true, beq_false, BEq.rfl, Bool.not_true, Bool.not_false, decide_true, decide_false, exists_prop]
                refine ⟨(by first | omega | (simp; omega)), i + 1, by omega, by omega, le_mkSl rfl (by simp only [go_sem, hdw]; exact Hp.le_refl _) ?_⟩
                simp [-List.map_take, go_sem, wrap_up i _ hi' hal, hst, h7, argT, hxc]
          · have e : i = x.args.length := by simp at h5; omega
            subst e
            simp only [go_sem, Int.natCast_nonneg, Nat.reduceEqDiff, Nat.reduceAdd, Nat.reduceSub, Nat.reduceLT, Nat.reduceMul, Nat.reduceBEq, Nat.reduceLeDiff, ↓reduceIte, Int.toNat_natCast, Int.reduceToNat, Int.toNat_zero, Int.toNat_one, not_true_eq_false, false_or, or_self, Nat.reduceGT, Option.isSome_some, Bool.and_self, Nat.zero_add, Nat.mul_one, List.length_map, List.take_length, Int.cast_ofNat_Int, Int.reduceLE, Int.reduceLT, Int.reduceGE, Int.reduceGT, Int.reduceEq, Int.reduceNe, Int.le_refl, Nat.le_refl, Nat.reduceAdd, ne_eq, not_false_eq_true, reduceCtorEq, beq_true, beq_false, BEq.rfl, Bool.not_true, Bool.not_false, decide_true, decide_false, exists_prop, h5]
            rw [List.take_length] at hJAl
            refine ⟨(by first | omega | (simp; omega)), j + 1, by omega, by omega, le_mkSl rfl (Hp.le_refl _) ?_⟩
            simp [-List.map_take, go_sem, wrap_up j _ hj' hxl, hstx, ← hB2, xtorT, hcd]
      · have e : j = d.xtors.length := by simp at h3; omega
        subst e
        simp only [go_sem, Int.natCast_nonneg, Nat.reduceEqDiff, Nat.reduceAdd, Nat.reduceSub, Nat.reduceLT, Nat.reduceMul, Nat.reduceBEq, Nat.reduceLeDiff, ↓reduceIte, Int.toNat_natCast, Int.reduceToNat, Int.toNat_zero, Int.toNat_one, not_true_eq_false, false_or, or_self, Nat.reduceGT, Option.isSome_some, Bool.and_self, Nat.zero_add, Nat.mul_one, List.length_map, List.take_length, Int.cast_ofNat_Int, Int.reduceLE, Int.reduceLT, Int.reduceGE, Int.reduceGT, Int.reduceEq, Int.reduceNe, Int.le_refl, Nat.le_refl, Nat.reduceAdd, ne_eq, not_false_eq_true, reduceCtorEq, beq_true, beq_false, BEq.rfl, Bool.not_true, Bool.not_false, decide_true, decide_false, exists_prop, h3]
        rw [List.take_length] at hJl
        refine ⟨(by first | omega | (simp; omega)), k + 1, by omega, by omega, le_mkSl rfl (Hp.le_refl _) ?_⟩
        simp [go_sem, wrap_up k _ hk' hl.len, htd]
  · have e : k = l.length := by simp at h; omega
    subst e
    rw [List.take_length] at hout
    exact ret_same ⟨by rw [← hout]; rfl, rfl⟩
end Go.Proofs.Ytfdlfcafcjhpmaa
