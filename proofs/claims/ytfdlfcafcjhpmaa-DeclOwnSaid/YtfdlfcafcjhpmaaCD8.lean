/- The reference's Small. -/
import Derived.Test.YtfdlfcafcjhpmaaCD7
set_option linter.unusedSimpArgs false
set_option linter.unusedVariables false
set_option maxRecDepth 20000
namespace Go.Proofs.Ytfdlfcafcjhpmaa
open Go.AL

def Typed (l : List DeclG) : Prop := ∀ d ∈ l, ∀ x ∈ d.xtors, ∀ a ∈ x.args, 0 ≤ a.typ ∧ a.typ ≤ l.length
theorem zero_bools (n : Nat) : (List.replicate n [Value.bool false]).flatten.map AV.v = bv (List.replicate n false) := by
  induction n with
  | zero => rfl
  | succ n ih => rw [List.replicate_succ, List.flatten_cons, List.map_append, ih]; rfl
def OneStep (l : List DeclG) (s t : List Bool) (i : Nat) : Prop := ∀ (d : DeclG) (x : XtorG), l[i]? = some d → d.codata = false → x ∈ d.xtors → x.args.all (builtA s) = true → t[i]? = some true

def Inv3 (l : List DeclG) (s t u : List Bool) (i : Nat) (d : DeclG) (k : Nat) : Prop := u.length = l.length ∧ Snd l u ∧ Up t u ∧ ∀ x ∈ d.xtors.take k, d.codata = false → x.args.all (builtA s) = true → u[i]? = some true
theorem take_snoc {α : Type} {l : List α} {k : Nat} {x : α} (h : l[k]? = some x) (y : α) : y ∈ l.take (k + 1) ↔ y ∈ l.take k ∨ y = x := by
  rw [List.take_add_one, h]; simp
theorem rsmall_calls (hd : Value) (l : List DeclG) (hn : l.length ≤ 8) (ht : Typed l) (hp : Hp) : ACalls Try.prog 45 [declsAV hd l] hp
    (fun r hp' => ∃ b s, IsSmall l s ∧ r = blk1 b l.length ∧ Fresh hp b ∧ hp' = hp.setBlk b 4 (bv s)) := by
  refine acalls_fit (callable_of Try.func45 (by decide +kernel)) fun hfit => ?_
  have hl := fit_decls hfit.1
  refine acalls_of Try.func45 rfl (by decide +kernel) (awp_sound (mu := [39]) _ _ _ ?_)
  simp only [go_sem, Int.natCast_nonneg, Nat.reduceEqDiff, Nat.reduceAdd, Nat.reduceSub, Nat.reduceLT, Nat.reduceMul, Nat.reduceBEq, Nat.reduceLeDiff, ↓reduceIte, Int.toNat_natCast, Int.reduceToNat, Int.toNat_zero, Int.toNat_one, not_true_eq_false, false_or, or_self, Nat.reduceGT, Option.isSome_some, Bool.and_self, Nat.zero_add, Nat.mul_one, List.length_map, List.take_length, Int.cast_ofNat_Int, Int.reduceLE, Int.reduceLT, Int.reduceGE, Int.reduceGT, Int.reduceEq, Int.reduceNe, Int.le_refl, Nat.le_refl, Nat.reduceAdd, ne_eq, not_false_eq_true, reduceCtorEq, beq_true, beq_false, BEq.rfl, Bool.not_true, Bool.not_false, decide_true, decide_false, exists_prop, declsAV]
  refine ⟨by simp only [maxLen]; omega, by omega, fun b hb => ?_⟩
  rw [zero_bools]
  refine aw_loopX 44 (fun g : Nat × List Bool => [(0, .lst 3 hd (l.map DeclG.av)), (3, blk1 b l.length), (12, .v (.int .i64 l.length)), (13, .v (.int .i64 g.1))])
    (fun g => hp.setBlk b 4 (bv g.2)) (fun g => g.1 ≤ l.length ∧ g.2.length = l.length ∧ Snd l g.2 ∧ (Clo l g.2 ∨ g.1 ≤ cnt g.2)) (fun g => l.length - g.1) (0, List.replicate l.length false)
    ⟨Nat.zero_le _, by simp, fun i hi => by simp [List.getElem?_replicate] at hi, .inr (Nat.zero_le _)⟩ (le_mkSl rfl (Hp.le_refl _) (by simp [go_sem, blk1])) ?_
  rintro ⟨r, s⟩ ⟨hr, hsl, hsn, hsc⟩
  simp only at hr hsl hsn hsc
  refine awp_sound (mu := [39]) _ _ _ ?_
  simp only [go_sem, Int.natCast_nonneg, Nat.reduceEqDiff, Nat.reduceAdd, Nat.reduceSub, Nat.reduceLT, Nat.reduceMul, Nat.reduceBEq, Nat.reduceLeDiff, ↓reduceIte, Int.toNat_natCast, Int.reduceToNat, Int.toNat_zero, Int.toNat_one, not_true_eq_false, false_or, or_self, Nat.reduceGT, Option.isSome_some, Bool.and_self, Nat.zero_add, Nat.mul_one, List.length_map, List.take_length, Int.cast_ofNat_Int, Int.reduceLE, Int.reduceLT, Int.reduceGE, Int.reduceGT, Int.reduceEq, Int.reduceNe, Int.le_refl, Nat.le_refl, Nat.reduceAdd, ne_eq, not_false_eq_true, reduceCtorEq, beq_true, beq_false, BEq.rfl, Bool.not_true, Bool.not_false, decide_true, decide_false, exists_prop, blk1]
  refine brK_mk (fun h => ?_) (fun h => ?_) <;> simp only [go_sem, Int.natCast_nonneg, Nat.reduceEqDiff, Nat.reduceAdd, Nat.reduceSub, Nat.reduceLT, Nat.reduceMul, Nat.reduceBEq, Nat.reduceLeDiff, ↓reduceIte, Int.toNat_natCast, Int.reduceToNat, Int.toNat_zero, Int.toNat_one, not_true_eq_false, false_or, or_self, Nat.reduceGT, Option.isSome_some, Bool.and_self, Nat.zero_add, Nat.mul_one, List.length_map, List.take_length, Int.cast_ofNat_Int, Int.reduceLE, Int.reduceLT, Int.reduceGE, Int.reduceGT, Int.reduceEq, Int.reduceNe, Int.le_refl, Nat.le_refl, Nat.reduceAdd, ne_eq, not_false_eq_true, reduceCtorEq, beq_true, beq_false, BEq.rfl, Bool.not_true, Bool.not_false, decide_true, decide_false, exists_prop, h]
  · have hr' : r < l.length := by simpa using h
    refine aw_loopX 44 (fun g : Nat × List Bool => [(0, .lst 3 hd (l.map DeclG.av)), (3, blk1 b l.length), (12, .v (.int .i64 l.length)), (13, .v (.int .i64 r)), (15, .lst 3 hd (l.map DeclG.av)), (16, .v (.int .i64 l.length)), (17, .v (.int .i64 g.1))])
      (fun g => hp.setBlk b 4 (bv g.2)) (fun g => g.1 ≤ l.length ∧ g.2.length = l.length ∧ Snd l g.2 ∧ Up s g.2 ∧ ∀ j, j < g.1 → OneStep l s g.2 j) (fun g => l.length - g.1) (0, s)
      ⟨Nat.zero_le _, hsl, hsn, fun _ h => h, fun j hj => absurd hj (Nat.not_lt_zero _)⟩ (le_mkSl rfl (Hp.le_refl _) (by simp [go_sem, blk1])) ?_
    rintro ⟨i, t⟩ ⟨hi, htl, htn, hst, hone⟩
    simp only at hi htl htn hst hone
    refine awp_sound (mu := [39]) _ _ _ ?_
    simp only [go_sem, Int.natCast_nonneg, Nat.reduceEqDiff, Nat.reduceAdd, Nat.reduceSub, Nat.reduceLT, Nat.reduceMul, Nat.reduceBEq, Nat.reduceLeDiff, ↓reduceIte, Int.toNat_natCast, Int.reduceToNat, Int.toNat_zero, Int.toNat_one, not_true_eq_false, false_or, or_self, Nat.reduceGT, Option.isSome_some, Bool.and_self, Nat.zero_add, Nat.mul_one, List.length_map, List.take_length, Int.cast_ofNat_Int, Int.reduceLE, Int.reduceLT, Int.reduceGE, Int.reduceGT, Int.reduceEq, Int.reduceNe, Int.le_refl, Nat.le_refl, Nat.reduceAdd, ne_eq, not_false_eq_true, reduceCtorEq, beq_true, beq_false, BEq.rfl, Bool.not_true, Bool.not_false, decide_true, decide_false, exists_prop, blk1]
    refine brK_mk (fun h2 => ?_) (fun h2 => ?_) <;> simp only [go_sem, Int.natCast_nonneg, Nat.reduceEqDiff, Nat.reduceAdd, Nat.reduceSub, Nat.reduceLT, Nat.reduceMul, Nat.reduceBEq, Nat.reduceLeDiff, ↓reduceIte, Int.toNat_natCast, Int.reduceToNat, Int.toNat_zero, Int.toNat_one, not_true_eq_false, false_or, or_self, Nat.reduceGT, Option.isSome_some, Bool.and_self, Nat.zero_add, Nat.mul_one, List.length_map, List.take_length, Int.cast_ofNat_Int, Int.reduceLE, Int.reduceLT, Int.reduceGE, Int.reduceGT, Int.reduceEq, Int.reduceNe, Int.le_refl, Nat.le_refl, Nat.reduceAdd, ne_eq, not_false_eq_true, reduceCtorEq, beq_true, beq_false, BEq.rfl, Bool.not_true, Bool.not_false, decide_true, decide_false, exists_prop, h2]
    · have hi' : i < l.length := by simpa using h2
      obtain ⟨d, hgd⟩ := some_at l i hi'
      have hmem := List.mem_of_getElem? hgd
      have hxl := hl.xt d hmem
      have hcd : d.cs = [.v (.string (bs d.name)), .v (.bool d.codata), .lst 2 d.h (d.xtors.map XtorG.av)] := rfl
      simp only [go_sem, Int.natCast_nonneg, Nat.reduceEqDiff, Nat.reduceAdd, Nat.reduceSub, Nat.reduceLT, Nat.reduceMul, Nat.reduceBEq, Nat.reduceLeDiff, ↓reduceIte, Int.toNat_natCast, Int.reduceToNat, Int.toNat_zero, Int.toNat_one, not_true_eq_false, false_or, or_self, Nat.reduceGT, Option.isSome_some, Bool.and_self, Nat.zero_add, Nat.mul_one, List.length_map, List.take_length, Int.cast_ofNat_Int, Int.reduceLE, Int.reduceLT, Int.reduceGE, Int.reduceGT, Int.reduceEq, Int.reduceNe, Int.le_refl, Nat.le_refl, Nat.reduceAdd, ne_eq, not_false_eq_true, reduceCtorEq, beq_true, beq_false, BEq.rfl, Bool.not_true, Bool.not_false, decide_true, decide_false, exists_prop, h2, map_at DeclG.av _ _ _ hgd, DeclG.av, DeclG.cs]
      intro v hv
      have hds := fun T cs => Hp.del_set _ _ T cs hv.1
      simp only [hds]
      refine aw_loopX 44 (fun g : Nat × List Bool => [(0, .lst 3 hd (l.map DeclG.av)), (3, blk1 b l.length), (12, .v (.int .i64 l.length)), (13, .v (.int .i64 r)), (15, .lst 3 hd (l.map DeclG.av)), (16, .v (.int .i64 l.length)), (17, .v (.int .i64 i)),
          (4, .v (.int .i64 i)), (5, .ref (.pointer (some ⟨v, 0, none⟩)) d.cs), (23, .lst 2 d.h (d.xtors.map XtorG.av)), (24, .v (.int .i64 d.xtors.length)), (25, .v (.int .i64 g.1))])
        (fun g => hp.setBlk b 4 (bv g.2)) (fun g => g.1 ≤ d.xtors.length ∧ Inv3 l s t g.2 i d g.1) (fun g => d.xtors.length - g.1) (0, t)
        ⟨Nat.zero_le _, htl, htn, fun _ h => h, by simp⟩ (le_mkSl rfl (by simp only [go_sem, hds]; exact Hp.le_refl _) (by simp [go_sem, blk1, hcd])) ?_
      rintro ⟨k, u⟩ ⟨hk, hinv⟩
      simp only at hk hinv
      obtain ⟨hul, hun, htu, hx1⟩ := hinv
      refine awp_sound (mu := [39]) _ _ _ ?_
      simp only [go_sem, Int.natCast_nonneg, Nat.reduceEqDiff, Nat.reduceAdd, Nat.reduceSub, Nat.reduceLT, Nat.reduceMul, Nat.reduceBEq, Nat.reduceLeDiff, ↓reduceIte, Int.toNat_natCast, Int.reduceToNat, Int.toNat_zero, Int.toNat_one, not_true_eq_false, false_or, or_self, Nat.reduceGT, Option.isSome_some, Bool.and_self, Nat.zero_add, Nat.mul_one, List.length_map, List.take_length, Int.cast_ofNat_Int, Int.reduceLE, Int.reduceLT, Int.reduceGE, Int.reduceGT, Int.reduceEq, Int.reduceNe, Int.le_refl, Nat.le_refl, Nat.reduceAdd, ne_eq, not_false_eq_true, reduceCtorEq, beq_true, beq_false, BEq.rfl, Bool.not_true, Bool.not_false, decide_true, decide_false, exists_prop, blk1]
      refine brK_mk (fun h3 => ?_) (fun h3 => ?_)
      · have hk' : k < d.xtors.length := by simpa using h3
        obtain ⟨x, hx⟩ := some_at d.xtors k hk'
        have hxm := List.mem_of_getElem? hx
        simp only [go_sem, Int.natCast_nonneg, Nat.reduceEqDiff, Nat.reduceAdd, Nat.reduceSub, Nat.reduceLT, Nat.reduceMul, Nat.reduceBEq, Nat.reduceLeDiff, ↓reduceIte, Int.toNat_natCast, Int.reduceToNat, Int.toNat_zero, Int.toNat_one, not_true_eq_false, false_or, or_self, Nat.reduceGT, Option.isSome_some, Bool.and_self, Nat.zero_add, Nat.mul_one, List.length_map, List.take_length, Int.cast_ofNat_Int, Int.reduceLE, Int.reduceLT, Int.reduceGE, Int.reduceGT, Int.reduceEq, Int.reduceNe, Int.le_refl, Nat.le_refl, Nat.reduceAdd, ne_eq, not_false_eq_true, reduceCtorEq, beq_true, beq_false, BEq.rfl, Bool.not_true, Bool.not_false, decide_true, decide_false, exists_prop, h3, map_at XtorG.av _ _ _ hx, XtorG.av, XtorG.cs, DeclG.cs]
        intro w hw
        have hdw := fun T cs => Hp.del_set _ _ T cs hw.1
        refine brK_mk (fun h4 => ?_) (fun h4 => ?_) <;> simp only [go_sem, Int.natCast_nonneg, Nat.reduceEqDiff, Nat.reduceAdd, Nat.reduceSub, Nat.reduceLT, Nat.reduceMul, Nat.reduceBEq, Nat.reduceLeDiff, ↓reduceIte, Int.toNat_natCast, Int.reduceToNat, Int.toNat_zero, Int.toNat_one, not_true_eq_false, false_or, or_self, Nat.reduceGT, Option.isSome_some, Bool.and_self, Nat.zero_add, Nat.mul_one, List.length_map, List.take_length, Int.cast_ofNat_Int, Int.reduceLE, Int.reduceLT, Int.reduceGE, Int.reduceGT, Int.reduceEq, Int.reduceNe, Int.le_refl, Nat.le_refl, Nat.reduceAdd, ne_eq, not_false_eq_true, reduceCtorEq, beq_true, beq_false, BEq.rfl, Bool.not_true, Bool.not_false, decide_true, decide_false, exists_prop, h4, hdw]
        · refine ⟨(k + 1, u), by simp only; omega, ⟨by simp only; omega, hul, hun, htu, ?_⟩, le_mkSl rfl (Hp.le_refl _) ?_⟩
          · intro y _ hc; rw [h4] at hc; cases hc
          · simp [go_sem, wrap_up k _ hk' hxl, blk1]
        · have hbc := built_calls x b u (by simp only [maxLen]; omega) (fun a ha => by rw [hul]; exact (ht d hmem x hxm a ha).2) (hp.setBlk b 4 (bv u)) (by simp [Hp.setBlk])
          rw [hul] at hbc
          refine callX_by hbc ?_
          rintro r' hp' ⟨rfl, rfl⟩
          simp only [go_sem, Int.natCast_nonneg, Nat.reduceEqDiff, Nat.reduceAdd, Nat.reduceSub, Nat.reduceLT, Nat.reduceMul, Nat.reduceBEq, Nat.reduceLeDiff, ↓reduceIte, Int.toNat_natCast, Int.reduceToNat, Int.toNat_zero, Int.toNat_one, not_true_eq_false, false_or, or_self, Nat.reduceGT, Option.isSome_some, Bool.and_self, Nat.zero_add, Nat.mul_one, List.length_map, List.take_length, Int.cast_ofNat_Int, Int.reduceLE, Int.reduceLT, Int.reduceGE, Int.reduceGT, Int.reduceEq, Int.reduceNe, Int.le_refl, Nat.le_refl, Nat.reduceAdd, ne_eq, not_false_eq_true, reduceCtorEq, beq_true, beq_false, BEq.rfl, Bool.not_true, Bool.not_false, decide_true, decide_false, exists_prop, h4, hdw]
          refine brK_mk (fun h5 => ?_) (fun h5 => ?_) <;> simp only [go_sem, Int.natCast_nonneg, Nat.reduceEqDiff, Nat.reduceAdd, Nat.reduceSub, Nat.reduceLT, Nat.reduceMul, Nat.reduceBEq, Nat.reduceLeDiff, ↓reduceIte, Int.toNat_natCast, Int.reduceToNat, Int.toNat_zero, Int.toNat_one, not_true_eq_false, false_or, or_self, Nat.reduceGT, Option.isSome_some, Bool.and_self, Nat.zero_add, Nat.mul_one, List.length_map, List.take_length, Int.cast_ofNat_Int, Int.reduceLE, Int.reduceLT, Int.reduceGE, Int.reduceGT, Int.reduceEq, Int.reduceNe, Int.le_refl, Nat.le_refl, Nat.reduceAdd, ne_eq, not_false_eq_true, reduceCtorEq, beq_true, beq_false, BEq.rfl, Bool.not_true, Bool.not_false, decide_true, decide_false, exists_prop, h5, hdw]
          · refine ⟨by omega, by rw [bv_len]; omega, ?_⟩
            refine ⟨(k + 1, u.set i true), by simp only; omega, ⟨by simp only; omega, by simp [hul], hun.step hgd h4 hxm h5, fun j hj => up_set _ _ _ (htu j hj), ?_⟩, le_mkSl rfl (by simp only [go_sem, Int.natCast_nonneg, Nat.reduceEqDiff, Nat.reduceAdd, Nat.reduceSub, Nat.reduceLT, Nat.reduceMul, Nat.reduceBEq, Nat.reduceLeDiff, ↓reduceIte, Int.toNat_natCast, Int.reduceToNat, Int.toNat_zero, Int.toNat_one, not_true_eq_false, false_or, or_self, Nat.reduceGT, Option.isSome_some, Bool.and_self, Nat.zero_add, Nat.mul_one, List.length_map, List.take_length, Int.cast_ofNat_Int, Int.reduceLE, Int.reduceLT, Int.reduceGE, Int.reduceGT, Int.reduceEq, Int.reduceNe, Int.le_refl, Nat.le_refl, Nat.reduceAdd, ne_eq, not_false_eq_true, reduceCtorEq, beq_true, beq_false, BEq.rfl, Bool.not_true, Bool.not_false, decide_true, decide_false, exists_prop, hdw]; rw [show List.take i (bv u) ++ [AV.v (.bool true)] ++ List.drop (i + 1) (bv u) = bv (u.set i true) from bv_set u i true (by omega)]; exact Hp.le_refl _) ?_⟩
            · intro y _ _ _
              simp only
              rw [List.getElem?_set, if_pos rfl, if_pos (by omega)]
            · simp [go_sem, wrap_up k _ hk' hxl, blk1]
          · refine ⟨(k + 1, u), by simp only; omega, ⟨by simp only; omega, hul, hun, htu, ?_⟩, le_mkSl rfl (Hp.le_refl _) ?_⟩
            · intro y hy hc hbl
              rcases (take_snoc hx y).1 hy with hy | rfl
              · exact hx1 y hy hc hbl
              · have := (Up.built (fun j hj => htu j (hst j hj)) hbl); rw [h5] at this; cases this
            · simp [go_sem, wrap_up k _ hk' hxl, blk1]
      · simp only [go_sem, Int.natCast_nonneg, Nat.reduceEqDiff, Nat.reduceAdd, Nat.reduceSub, Nat.reduceLT, Nat.reduceMul, Nat.reduceBEq, Nat.reduceLeDiff, ↓reduceIte, Int.toNat_natCast, Int.reduceToNat, Int.toNat_zero, Int.toNat_one, not_true_eq_false, false_or, or_self, Nat.reduceGT, Option.isSome_some, Bool.and_self, Nat.zero_add, Nat.mul_one, List.length_map, List.take_length, Int.cast_ofNat_Int, Int.reduceLE, Int.reduceLT, Int.reduceGE, Int.reduceGT, Int.reduceEq, Int.reduceNe, Int.le_refl, Nat.le_refl, Nat.reduceAdd, ne_eq, not_false_eq_true, reduceCtorEq, beq_true, beq_false, BEq.rfl, Bool.not_true, Bool.not_false, decide_true, decide_false, exists_prop, h3]
        have e : d.xtors.length ≤ k := by simp at h3; omega
        refine ⟨(i + 1, u), by simp only; omega, ⟨by simp only; omega, hul, hun, fun j hj => htu j (hst j hj), ?_⟩, le_mkSl rfl (Hp.le_refl _) ?_⟩
        · intro j hj
          rcases Nat.lt_or_eq_of_le (Nat.le_of_lt_succ hj) with hj | rfl
          · exact fun d' x' h1 h2 h3 h4 => htu _ (hone j hj d' x' h1 h2 h3 h4)
          · intro d' x' h1 h2 h3 h4
            rw [hgd] at h1; obtain rfl := Option.some.inj h1
            exact hx1 x' (by rw [List.take_of_length_le e]; exact h3) h2 h4
        · simp [go_sem, wrap_up i _ hi' hl.len, blk1]
    · have e : i = l.length := by simp at h2; omega
      subst e
      refine ⟨(r + 1, t), by simp only; omega, ⟨by simp only; omega, htl, htn, ?_⟩, le_mkSl rfl (Hp.le_refl _) ?_⟩
      · obtain ⟨c1, c2⟩ := cnt_up (hsl.trans htl.symm) hst
        have hcl : s = t → Clo l t := by
          rintro rfl
          intro i d x h1 h2 h3 h4
          exact hone i (List.getElem?_eq_some_iff.1 h1).1 d x h1 h2 h3 h4
        rcases hsc with hsc | hsc
        · left
          refine hcl (List.ext_getElem? fun i => ?_)
          have hti : t[i]? = some true → s[i]? = some true := fun h => hsc.least i (htn i h)
          rcases Nat.lt_or_ge i l.length with h | h
          · obtain ⟨a, ha⟩ := some_at s i (by omega)
            obtain ⟨b, hb⟩ := some_at t i (by omega)
            have := hst i
            rw [ha, hb] at this hti ⊢
            cases a <;> cases b <;> simp at this hti ⊢
          · rw [List.getElem?_eq_none (by omega), List.getElem?_eq_none (by omega)]
        · rcases Nat.lt_or_ge (cnt s) (cnt t) with h | h
          · exact .inr (by simp only; omega)
          · exact .inl (hcl (c2 (by omega)))
      · simp [go_sem, wrap_up r _ hr' hl.len, blk1]
  · have e : r = l.length := by simp at h; omega
    refine ret_same ⟨b, s, isSmall_of hsl hsn ?_, rfl, hb, rfl⟩
    rcases hsc with hsc | hsc
    · exact hsc
    · have := cnt_le s
      exact fun i d x h1 h2 h3 h4 => cnt_all (by omega) i (by rw [hsl]; exact (List.getElem?_eq_some_iff.1 h1).1)
end Go.Proofs.Ytfdlfcafcjhpmaa
