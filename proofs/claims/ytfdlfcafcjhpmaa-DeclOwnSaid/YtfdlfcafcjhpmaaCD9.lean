/- Small of decl. -/
import Derived.Test.YtfdlfcafcjhpmaaCD8
set_option linter.unusedSimpArgs false
set_option linter.unusedVariables false
set_option maxRecDepth 20000
namespace Go.Proofs.Ytfdlfcafcjhpmaa
open Go.AL

def Inv1 (s s' : List Bool) (i : Nat) (d : DeclG) (ch : Bool) : Prop :=
  (ch = false → s' = s ∧ ∀ x ∈ d.xtors, x.args.all (builtA s) = true → s[i]? = some true) ∧
  (ch = true → s[i]? = some false ∧ s' = s.set i true ∧ ∃ x ∈ d.xtors, x.args.all (builtA s) = true)
def InvP (s : List Bool) (i : Nat) (d : DeclG) (k : Nat) : Prop := ∀ x ∈ d.xtors.take k, x.args.all (builtA s) = true → s[i]? = some true

theorem small1_calls (d : DeclG) (pd po pi : Value) (i b : Nat) (s : List Bool) (hs : s.length ≤ maxLen) (hi : i < s.length) (hx : ∀ x ∈ d.xtors, ∀ a ∈ x.args, 0 ≤ a.typ ∧ a.typ ≤ s.length) (hp : Hp) (hb : hp.blk b = some (4, bv s)) :
    ACalls Try.prog 76 [.ref pd d.cs, .ref po [blk1 b s.length], .ref pi [.v (.int .i64 i)]] hp
      (fun r hp' => ∃ ch s', r = .v (.bool ch) ∧ hp' = hp.setBlk b 4 (bv s') ∧ Inv1 s s' i d ch) := by
  refine acalls_fit (callable_of Try.func76 (by decide +kernel)) fun hfit => ?_
  have hcd : d.cs = [.v (.string (bs d.name)), .v (.bool d.codata), .lst 2 d.h (d.xtors.map XtorG.av)] := rfl
  have hf := fit_decls (h := .nilFunc) (l := [d]) ⟨by simp [maxLen], hfit.1, trivial⟩
  have hxl := hf.xt d (by simp)
  have hal : ∀ x ∈ d.xtors, x.args.length ≤ maxLen := fun x hx => hf.ar d (by simp) x hx
  have same : hp = hp.setBlk b 4 (bv s) := by
    cases hp; simp only [Hp.setBlk, Hp.mk.injEq, and_true, true_and]; funext j; by_cases h : j = b
    · subst h; simp; exact hb
    · simp [h]
  obtain ⟨i0, hi0⟩ := some_at s i hi
  refine acalls_of Try.func76 rfl (by decide +kernel) (awp_sound (mu := [53]) _ _ _ ?_)
  simp only [go_sem, Int.natCast_nonneg, Nat.reduceEqDiff, Nat.reduceAdd, Nat.reduceSub, Nat.reduceLT, Nat.reduceMul, Nat.reduceBEq, Nat.reduceLeDiff, ↓reduceIte, Int.toNat_natCast, Int.reduceToNat, Int.toNat_zero, Int.toNat_one, not_true_eq_false, false_or, or_self, Nat.reduceGT, Option.isSome_some, Bool.and_self, Nat.zero_add, Nat.mul_one, List.length_map, List.take_length, Int.cast_ofNat_Int, Int.reduceLE, Int.reduceLT, Int.reduceGE, Int.reduceGT, Int.reduceEq, Int.reduceNe, Int.le_refl, Nat.le_refl, Nat.reduceAdd, ne_eq, not_false_eq_true, reduceCtorEq, beq_true, beq_false, BEq.rfl, Bool.not_true, Bool.not_false, decide_true, decide_false, exists_prop, hcd, blk1]
  refine aw_loopX 55 (fun k : Nat => [(0, .ref pd d.cs), (1, .ref po [blk1 b s.length]), (2, .ref pi [.v (.int .i64 i)]), (10, .lst 2 d.h (d.xtors.map XtorG.av)), (11, .v (.int .i64 d.xtors.length)), (12, .v (.int .i64 k))])
    (fun _ => hp) (fun k => k ≤ d.xtors.length ∧ InvP s i d k) (fun k => d.xtors.length - k) 0
    ⟨Nat.zero_le _, fun x hx => by simp at hx⟩ (le_mkSl rfl (Hp.le_refl _) (by simp [go_sem, blk1, hcd])) ?_
  rintro k ⟨hk, hip⟩
  refine awp_sound (mu := [53]) _ _ _ ?_
  simp only [go_sem, Int.natCast_nonneg, Nat.reduceEqDiff, Nat.reduceAdd, Nat.reduceSub, Nat.reduceLT, Nat.reduceMul, Nat.reduceBEq, Nat.reduceLeDiff, ↓reduceIte, Int.toNat_natCast, Int.reduceToNat, Int.toNat_zero, Int.toNat_one, not_true_eq_false, false_or, or_self, Nat.reduceGT, Option.isSome_some, Bool.and_self, Nat.zero_add, Nat.mul_one, List.length_map, List.take_length, Int.cast_ofNat_Int, Int.reduceLE, Int.reduceLT, Int.reduceGE, Int.reduceGT, Int.reduceEq, Int.reduceNe, Int.le_refl, Nat.le_refl, Nat.reduceAdd, ne_eq, not_false_eq_true, reduceCtorEq, beq_true, beq_false, BEq.rfl, Bool.not_true, Bool.not_false, decide_true, decide_false, exists_prop, blk1]
  refine brK_mk (fun h => ?_) (fun h => ?_) <;> simp only [go_sem, Int.natCast_nonneg, Nat.reduceEqDiff, Nat.reduceAdd, Nat.reduceSub, Nat.reduceLT, Nat.reduceMul, Nat.reduceBEq, Nat.reduceLeDiff, ↓reduceIte, Int.toNat_natCast, Int.reduceToNat, Int.toNat_zero, Int.toNat_one, not_true_eq_false, false_or, or_self, Nat.reduceGT, Option.isSome_some, Bool.and_self, Nat.zero_add, Nat.mul_one, List.length_map, List.take_length, Int.cast_ofNat_Int, Int.reduceLE, Int.reduceLT, Int.reduceGE, Int.reduceGT, Int.reduceEq, Int.reduceNe, Int.le_refl, Nat.le_refl, Nat.reduceAdd, ne_eq, not_false_eq_true, reduceCtorEq, beq_true, beq_false, BEq.rfl, Bool.not_true, Bool.not_false, decide_true, decide_false, exists_prop, h]
  · have hk' : k < d.xtors.length := by simpa using h
    obtain ⟨x, hxg⟩ := some_at d.xtors k hk'
    have hxm := List.mem_of_getElem? hxg
    have hxc : x.cs = [.v (.string (bs x.name)), .lst 2 x.h (x.args.map ArgG.av)] := rfl
    simp only [go_sem, Int.natCast_nonneg, Nat.reduceEqDiff, Nat.reduceAdd, Nat.reduceSub, Nat.reduceLT, Nat.reduceMul, Nat.reduceBEq, Nat.reduceLeDiff, ↓reduceIte, Int.toNat_natCast, Int.reduceToNat, Int.toNat_zero, Int.toNat_one, not_true_eq_false, false_or, or_self, Nat.reduceGT, Option.isSome_some, Bool.and_self, Nat.zero_add, Nat.mul_one, List.length_map, List.take_length, Int.cast_ofNat_Int, Int.reduceLE, Int.reduceLT, Int.reduceGE, Int.reduceGT, Int.reduceEq, Int.reduceNe, Int.le_refl, Nat.le_refl, Nat.reduceAdd, ne_eq, not_false_eq_true, reduceCtorEq, beq_true, beq_false, BEq.rfl, Bool.not_true, Bool.not_false, decide_true, decide_false, exists_prop, h, map_at XtorG.av _ _ _ hxg, XtorG.av, hxc]
    intro v hv
    have hds := fun T cs => Hp.del_set _ _ T cs hv.1
    simp only [hds]
    refine aw_loopX 55 (fun g : Nat × Bool => [(0, .ref pd d.cs), (1, .ref po [blk1 b s.length]), (2, .ref pi [.v (.int .i64 i)]), (10, .lst 2 d.h (d.xtors.map XtorG.av)), (11, .v (.int .i64 d.xtors.length)), (12, .v (.int .i64 k)),
        (6, .v (.bool g.2)), (17, .lst 2 x.h (x.args.map ArgG.av)), (18, .v (.int .i64 x.args.length)), (19, .v (.int .i64 g.1))])
      (fun _ => hp) (fun g => g.1 ≤ x.args.length ∧ (g.2 && (x.args.drop g.1).all (builtA s)) = x.args.all (builtA s)) (fun g => x.args.length - g.1) (0, true)
      ⟨Nat.zero_le _, rfl⟩ (le_mkSl rfl (by simp only [go_sem, hds]; exact Hp.le_refl _) (by simp [go_sem, blk1, hcd])) ?_
    rintro ⟨q, m⟩ ⟨hq, has⟩
    simp only at hq has
    refine awp_sound (mu := [53]) _ _ _ ?_
    simp only [go_sem, Int.natCast_nonneg, Nat.reduceEqDiff, Nat.reduceAdd, Nat.reduceSub, Nat.reduceLT, Nat.reduceMul, Nat.reduceBEq, Nat.reduceLeDiff, ↓reduceIte, Int.toNat_natCast, Int.reduceToNat, Int.toNat_zero, Int.toNat_one, not_true_eq_false, false_or, or_self, Nat.reduceGT, Option.isSome_some, Bool.and_self, Nat.zero_add, Nat.mul_one, List.length_map, List.take_length, Int.cast_ofNat_Int, Int.reduceLE, Int.reduceLT, Int.reduceGE, Int.reduceGT, Int.reduceEq, Int.reduceNe, Int.le_refl, Nat.le_refl, Nat.reduceAdd, ne_eq, not_false_eq_true, reduceCtorEq, beq_true, beq_false, BEq.rfl, Bool.not_true, Bool.not_false, decide_true, decide_false, exists_prop, blk1]
    refine brK_mk (fun h2 => ?_) (fun h2 => ?_) <;> simp only [go_sem, Int.natCast_nonneg, Nat.reduceEqDiff, Nat.reduceAdd, Nat.reduceSub, Nat.reduceLT, Nat.reduceMul, Nat.reduceBEq, Nat.reduceLeDiff, ↓reduceIte, Int.toNat_natCast, Int.reduceToNat, Int.toNat_zero, Int.toNat_one, not_true_eq_false, false_or, or_self, Nat.reduceGT, Option.isSome_some, Bool.and_self, Nat.zero_add, Nat.mul_one, List.length_map, List.take_length, Int.cast_ofNat_Int, Int.reduceLE, Int.reduceLT, Int.reduceGE, Int.reduceGT, Int.reduceEq, Int.reduceNe, Int.le_refl, Nat.le_refl, Nat.reduceAdd, ne_eq, not_false_eq_true, reduceCtorEq, beq_true, beq_false, BEq.rfl, Bool.not_true, Bool.not_false, decide_true, decide_false, exists_prop, h2]
    · have hq' : q < x.args.length := by simpa using h2
      obtain ⟨a, ha⟩ := some_at x.args q hq'
      have hat := hx x hxm a (List.mem_of_getElem? ha)
      rw [drop_at _ q _ ha, List.all_cons] at has
      simp only [go_sem, Int.natCast_nonneg, Nat.reduceEqDiff, Nat.reduceAdd, Nat.reduceSub, Nat.reduceLT, Nat.reduceMul, Nat.reduceBEq, Nat.reduceLeDiff, ↓reduceIte, Int.toNat_natCast, Int.reduceToNat, Int.toNat_zero, Int.toNat_one, not_true_eq_false, false_or, or_self, Nat.reduceGT, Option.isSome_some, Bool.and_self, Nat.zero_add, Nat.mul_one, List.length_map, List.take_length, Int.cast_ofNat_Int, Int.reduceLE, Int.reduceLT, Int.reduceGE, Int.reduceGT, Int.reduceEq, Int.reduceNe, Int.le_refl, Nat.le_refl, Nat.reduceAdd, ne_eq, not_false_eq_true, reduceCtorEq, beq_true, beq_false, BEq.rfl, Bool.not_true, Bool.not_false, decide_true, decide_false, exists_prop, h2, map_at ArgG.av _ _ _ ha, ArgG.av, ArgG.cs]
      intro w hw
      have hdw := fun T cs => Hp.del_set _ _ T cs hw.1
      have hw31 := wrap_up q _ hq' (hal x hxm)
      have hne : (b = w) = False := by
        apply eq_false; rintro rfl
        have := hw.1; rw [hb] at this; cases this
      rcases hm : m <;> simp only [go_sem, Int.natCast_nonneg, Nat.reduceEqDiff, Nat.reduceAdd, Nat.reduceSub, Nat.reduceLT, Nat.reduceMul, Nat.reduceBEq, Nat.reduceLeDiff, ↓reduceIte, Int.toNat_natCast, Int.reduceToNat, Int.toNat_zero, Int.toNat_one, not_true_eq_false, false_or, or_self, Nat.reduceGT, Option.isSome_some, Bool.and_self, Nat.zero_add, Nat.mul_one, List.length_map, List.take_length, Int.cast_ofNat_Int, Int.reduceLE, Int.reduceLT, Int.reduceGE, Int.reduceGT, Int.reduceEq, Int.reduceNe, Int.le_refl, Nat.le_refl, Nat.reduceAdd, ne_eq, not_false_eq_true, reduceCtorEq, beq_true, beq_false, BEq.rfl, Bool.not_true, Bool.not_false, decide_true, decide_false, exists_prop, hdw, hm] <;> rw [hm] at has
      · refine ⟨(q + 1, false), by simp only; omega, ⟨by simp only; omega, by rw [← has]; rfl⟩, le_mkSl rfl (Hp.le_refl _) ?_⟩
        simp [go_sem, hw31, blk1, hcd]
      · rcases hc : a.co <;> simp only [go_sem, Int.natCast_nonneg, Nat.reduceEqDiff, Nat.reduceAdd, Nat.reduceSub, Nat.reduceLT, Nat.reduceMul, Nat.reduceBEq, Nat.reduceLeDiff, ↓reduceIte, Int.toNat_natCast, Int.reduceToNat, Int.toNat_zero, Int.toNat_one, not_true_eq_false, false_or, or_self, Nat.reduceGT, Option.isSome_some, Bool.and_self, Nat.zero_add, Nat.mul_one, List.length_map, List.take_length, Int.cast_ofNat_Int, Int.reduceLE, Int.reduceLT, Int.reduceGE, Int.reduceGT, Int.reduceEq, Int.reduceNe, Int.le_refl, Nat.le_refl, Nat.reduceAdd, ne_eq, not_false_eq_true, reduceCtorEq, beq_true, beq_false, BEq.rfl, Bool.not_true, Bool.not_false, decide_true, decide_false, exists_prop, hdw, hc]
        · rcases ht : decide (a.typ = 0) <;> simp only [go_sem, Int.natCast_nonneg, Nat.reduceEqDiff, Nat.reduceAdd, Nat.reduceSub, Nat.reduceLT, Nat.reduceMul, Nat.reduceBEq, Nat.reduceLeDiff, ↓reduceIte, Int.toNat_natCast, Int.reduceToNat, Int.toNat_zero, Int.toNat_one, not_true_eq_false, false_or, or_self, Nat.reduceGT, Option.isSome_some, Bool.and_self, Nat.zero_add, Nat.mul_one, List.length_map, List.take_length, Int.cast_ofNat_Int, Int.reduceLE, Int.reduceLT, Int.reduceGE, Int.reduceGT, Int.reduceEq, Int.reduceNe, Int.le_refl, Nat.le_refl, Nat.reduceAdd, ne_eq, not_false_eq_true, reduceCtorEq, beq_true, beq_false, BEq.rfl, Bool.not_true, Bool.not_false, decide_true, decide_false, exists_prop, hdw, ht]
          · have ht' := ht; simp at ht'
            obtain ⟨t, htt⟩ := some_at s (a.typ - 1).toNat (by omega)
            have hwt : IntKind.i64.wrap (a.typ - 1) = a.typ - 1 := wrap_t (t := a.typ) _ hat.1 hat.2 hs
            simp only [go_sem, Int.natCast_nonneg, Nat.reduceEqDiff, Nat.reduceAdd, Nat.reduceSub, Nat.reduceLT, Nat.reduceMul, Nat.reduceBEq, Nat.reduceLeDiff, ↓reduceIte, Int.toNat_natCast, Int.reduceToNat, Int.toNat_zero, Int.toNat_one, not_true_eq_false, false_or, or_self, Nat.reduceGT, Option.isSome_some, Bool.and_self, Nat.zero_add, Nat.mul_one, List.length_map, List.take_length, Int.cast_ofNat_Int, Int.reduceLE, Int.reduceLT, Int.reduceGE, Int.reduceGT, Int.reduceEq, Int.reduceNe, Int.le_refl, Nat.le_refl, Nat.reduceAdd, ne_eq, not_false_eq_true, reduceCtorEq, beq_true, beq_false, BEq.rfl, Bool.not_true, Bool.not_false, decide_true, decide_false, exists_prop, hdw, hwt, hb, bv_drop _ _ _ htt]
            refine ⟨by omega, by omega, ?_⟩
            have hbt : builtA s a = t := by
              have : decide (a.typ > 0) = true := by simp; omega
              simp only [builtA, hc, this, htt, Bool.and_true, Bool.true_and, Bool.and_false, Bool.false_and, Bool.or_true, Bool.true_or, Bool.or_false, Bool.false_or, Bool.not_true, Bool.not_false, Option.getD_some, Bool.not_not]
            refine ⟨(q + 1, t), by simp only; omega, ⟨by simp only; omega, by rw [← has, hbt]; simp⟩, le_mkSl rfl (Hp.le_refl _) ?_⟩
            simp [go_sem, hw31, blk1, hcd]
          · have ht' := ht; simp at ht'
            have hbt : builtA s a = true := by simp [builtA, hc, ht']
            refine ⟨(q + 1, true), by simp only; omega, ⟨by simp only; omega, by rw [← has, hbt]; simp⟩, le_mkSl rfl (Hp.le_refl _) ?_⟩
            simp [go_sem, hw31, blk1, hcd]
        · have hbt : builtA s a = false := by simp [builtA, hc]
          refine ⟨(q + 1, false), by simp only; omega, ⟨by simp only; omega, by rw [← has, hbt]; simp⟩, le_mkSl rfl (Hp.le_refl _) ?_⟩
          simp [go_sem, hw31, blk1, hcd]
    · have e : x.args.length ≤ q := by simp at h2; omega
      rw [List.drop_of_length_le e, List.all_nil, Bool.and_true] at has
      have goon : (x.args.all (builtA s) = true → s[i]? = some true) → InvP s i d (k + 1) := fun hh y hy hby => by
        rcases (take_snoc hxg y).1 hy with hy | rfl
        · exact hip y hy hby
        · exact hh hby
      rcases hm : m <;> simp only [go_sem, Int.natCast_nonneg, Nat.reduceEqDiff, Nat.reduceAdd, Nat.reduceSub, Nat.reduceLT, Nat.reduceMul, Nat.reduceBEq, Nat.reduceLeDiff, ↓reduceIte, Int.toNat_natCast, Int.reduceToNat, Int.toNat_zero, Int.toNat_one, not_true_eq_false, false_or, or_self, Nat.reduceGT, Option.isSome_some, Bool.and_self, Nat.zero_add, Nat.mul_one, List.length_map, List.take_length, Int.cast_ofNat_Int, Int.reduceLE, Int.reduceLT, Int.reduceGE, Int.reduceGT, Int.reduceEq, Int.reduceNe, Int.le_refl, Nat.le_refl, Nat.reduceAdd, ne_eq, not_false_eq_true, reduceCtorEq, beq_true, beq_false, BEq.rfl, Bool.not_true, Bool.not_false, decide_true, decide_false, exists_prop, hm, hb, bv_drop _ _ _ hi0] <;> rw [hm] at has
      · refine ⟨k + 1, by omega, ⟨by omega, goon (fun h => by rw [← has] at h; cases h)⟩, le_mkSl rfl (Hp.le_refl _) ?_⟩
        simp [go_sem, wrap_up k _ hk' hxl, blk1, hcd]
      · refine ⟨by omega, ?_⟩
        rcases hi1 : i0 <;> simp only [go_sem, Int.natCast_nonneg, Nat.reduceEqDiff, Nat.reduceAdd, Nat.reduceSub, Nat.reduceLT, Nat.reduceMul, Nat.reduceBEq, Nat.reduceLeDiff, ↓reduceIte, Int.toNat_natCast, Int.reduceToNat, Int.toNat_zero, Int.toNat_one, not_true_eq_false, false_or, or_self, Nat.reduceGT, Option.isSome_some, Bool.and_self, Nat.zero_add, Nat.mul_one, List.length_map, List.take_length, Int.cast_ofNat_Int, Int.reduceLE, Int.reduceLT, Int.reduceGE, Int.reduceGT, Int.reduceEq, Int.reduceNe, Int.le_refl, Nat.le_refl, Nat.reduceAdd, ne_eq, not_false_eq_true, reduceCtorEq, beq_true, beq_false, BEq.rfl, Bool.not_true, Bool.not_false, decide_true, decide_false, exists_prop, hi1, hb, bv_drop _ _ _ hi0]
        · refine ⟨by omega, by rw [bv_len]; omega, ?_⟩
          refine ret_le (hp' := hp.setBlk b 4 (bv (s.set i true))) ?_ ⟨true, s.set i true, rfl, rfl, ⟨fun h => (by cases h), fun _ => ⟨by rw [hi0, hi1], rfl, x, hxm, has.symm⟩⟩⟩
          rw [show List.take i (bv s) ++ [AV.v (.bool true)] ++ List.drop (i + 1) (bv s) = bv (s.set i true) from bv_set s i true hi]
          exact Hp.le_refl _
        · refine ⟨k + 1, by omega, ⟨by omega, goon (fun _ => by rw [hi0, hi1])⟩, le_mkSl rfl (Hp.le_refl _) ?_⟩
          simp [go_sem, wrap_up k _ hk' hxl, blk1, hcd]
  · have e : d.xtors.length ≤ k := by simp at h; omega
    refine ret_same ⟨false, s, rfl, same, ⟨fun _ => ⟨rfl, fun x hx => ?_⟩, fun h => (by cases h)⟩⟩
    exact hip x (by rw [List.take_of_length_le e]; exact hx)

/-- The closures of the data types, as they stand in the list. -/
structure WorkG where
  pd : Value
  pi : Value
  i : Nat
  d : DeclG
def WorkG.av (po : Value) (b n : Nat) (w : WorkG) : AV := .fn (.func 76) [] [.ref w.pd w.d.cs, .ref po [blk1 b n], .ref w.pi [.v (.int .i64 w.i)]]
/-- They are those of the data types below 'k'. -/
def WOk (l : List DeclG) (k : Nat) (ws : List WorkG) : Prop := (∀ w ∈ ws, l[w.i]? = some w.d ∧ w.d.codata = false) ∧ ∀ (i : Nat) (d : DeclG), i < k → l[i]? = some d → d.codata = false → ∃ w ∈ ws, w.i = i
def InvS (l : List DeclG) (s : List Bool) : Prop := s.length = l.length ∧ Snd l s
def smallE (l : List DeclG) : Int := if validB l = true then 0 else 10

theorem validB_typed {l : List DeclG} (h : validB l = true) : l.length ≤ 8 ∧ Typed l := by
  simp only [validB, Bool.and_eq_true, Bool.not_eq_true', decide_eq_false_iff_not] at h
  obtain ⟨h1, h2⟩ := h
  refine ⟨by omega, ?_⟩
  have hx : ∀ (n : Nat) (xs : List XtorG) (sn sn' : List (List UInt8)), fitsAll n sn xs = some sn' → ∀ x ∈ xs, ∀ a ∈ x.args, 0 ≤ a.typ ∧ a.typ ≤ n := by
    intro n xs
    induction xs with
    | nil => intro sn sn' _ x hx; cases hx
    | cons y r ih =>
      intro sn sn' h x hx a ha
      simp only [fitsAll] at h
      split at h
      · rename_i hy
        rcases List.mem_cons.1 hx with rfl | hx
        · simp only [xtorB, Bool.and_eq_true, List.all_eq_true] at hy
          have := hy.2 a ha
          simp only [argB, Bool.not_eq_true', Bool.or_eq_false_iff, decide_eq_false_iff_not] at this
          omega
        · exact ih _ _ h x hx a ha
      · cases h
  have hd : ∀ (n : Nat) (r : List DeclG) (names seen : List (List UInt8)), validFrom n names seen r = true → ∀ d ∈ r, ∀ x ∈ d.xtors, ∀ a ∈ x.args, 0 ≤ a.typ ∧ a.typ ≤ n := by
    intro n r
    induction r with
    | nil => intro _ _ _ d hd; cases hd
    | cons e r ih =>
      intro names seen h d hd
      simp only [validFrom, Bool.and_eq_true] at h
      obtain ⟨_, h⟩ := h
      split at h
      · rename_i sn' hf
        rcases List.mem_cons.1 hd with rfl | hd
        · exact hx n _ _ _ hf
        · exact ih _ _ h d hd
      · cases h
  exact hd l.length l [] [] h2

theorem del_set2 (h : Hp) (a c : Nat) (T T' : TypeId) (x y : List AV) (ha : h.blk a = none) (hne : c ≠ a) (hc' : h.blk c = none) : (((h.setBlk a T x).setBlk c T' y).delBlk a).delBlk c = h := by
  cases h with | mk blk mp sp gl =>
  simp only [Hp.setBlk, Hp.delBlk, Hp.mk.injEq, and_true]
  funext i
  by_cases h1 : i = c
  · subst h1; simp; exact hc'.symm
  · by_cases h2 : i = a
    · subst h2; simp [h1]; exact ha.symm
    · simp [h1, h2]

def InvW (l : List DeclG) (ws : List WorkG) (s : List Bool) (j : Nat) (t : List Bool) (c : Bool) : Prop :=
  InvS l t ∧ (c = false → t = s ∧ ∀ w ∈ ws.take j, ∀ x ∈ w.d.xtors, x.args.all (builtA s) = true → s[w.i]? = some true) ∧ (c = true → cnt s < cnt t)
def SmallR (l : List DeclG) (hp : Hp) (r : AV) (hp' : Hp) : Prop :=
  (validB l = false ∧ r = .tup [.v (.slice none 0 0), .v (.int .i64 10)] ∧ hp' = hp) ∨
  (validB l = true ∧ ∃ b s, IsSmall l s ∧ r = .tup [blk1 b l.length, .v (.int .i64 0)] ∧ Fresh hp b ∧ hp' = hp.setBlk b 4 (bv s))

theorem small_calls (hd : Value) (l : List DeclG) (hp : Hp) (hg : GOk hp) : ACalls Try.prog 39 [declsAV hd l] hp (SmallR l hp) := by
  refine acalls_fit (callable_of Try.func39 (by decide +kernel)) fun hfit => ?_
  have hl := fit_decls hfit.1
  refine acalls_of Try.func39 rfl (by decide +kernel) (awp_sound (mu := []) _ _ _ ?_)
  simp only [go_sem, Int.natCast_nonneg, Nat.reduceEqDiff, Nat.reduceAdd, Nat.reduceSub, Nat.reduceLT, Nat.reduceMul, Nat.reduceBEq, Nat.reduceLeDiff, ↓reduceIte, Int.toNat_natCast, Int.reduceToNat, Int.toNat_zero, Int.toNat_one, not_true_eq_false, false_or, or_self, Nat.reduceGT, Option.isSome_some, Bool.and_self, Nat.zero_add, Nat.mul_one, List.length_map, List.take_length, Int.cast_ofNat_Int, Int.reduceLE, Int.reduceLT, Int.reduceGE, Int.reduceGT, Int.reduceEq, Int.reduceNe, Int.le_refl, Nat.le_refl, Nat.reduceAdd, ne_eq, not_false_eq_true, reduceCtorEq, beq_true, beq_false, BEq.rfl, Bool.not_true, Bool.not_false, decide_true, decide_false, exists_prop]
  refine callX_by (valid_calls hd l _ hg) ?_
  rintro r hp' ⟨rfl, rfl⟩
  simp only [go_sem, Int.natCast_nonneg, Nat.reduceEqDiff, Nat.reduceAdd, Nat.reduceSub, Nat.reduceLT, Nat.reduceMul, Nat.reduceBEq, Nat.reduceLeDiff, ↓reduceIte, Int.toNat_natCast, Int.reduceToNat, Int.toNat_zero, Int.toNat_one, not_true_eq_false, false_or, or_self, Nat.reduceGT, Option.isSome_some, Bool.and_self, Nat.zero_add, Nat.mul_one, List.length_map, List.take_length, Int.cast_ofNat_Int, Int.reduceLE, Int.reduceLT, Int.reduceGE, Int.reduceGT, Int.reduceEq, Int.reduceNe, Int.le_refl, Nat.le_refl, Nat.reduceAdd, ne_eq, not_false_eq_true, reduceCtorEq, beq_true, beq_false, BEq.rfl, Bool.not_true, Bool.not_false, decide_true, decide_false, exists_prop, declsAV]
  refine brK_mk (fun h1 => ?_) (fun h1 => ?_) <;> simp only [go_sem, Int.natCast_nonneg, Nat.reduceEqDiff, Nat.reduceAdd, Nat.reduceSub, Nat.reduceLT, Nat.reduceMul, Nat.reduceBEq, Nat.reduceLeDiff, ↓reduceIte, Int.toNat_natCast, Int.reduceToNat, Int.toNat_zero, Int.toNat_one, not_true_eq_false, false_or, or_self, Nat.reduceGT, Option.isSome_some, Bool.and_self, Nat.zero_add, Nat.mul_one, List.length_map, List.take_length, Int.cast_ofNat_Int, Int.reduceLE, Int.reduceLT, Int.reduceGE, Int.reduceGT, Int.reduceEq, Int.reduceNe, Int.le_refl, Nat.le_refl, Nat.reduceAdd, ne_eq, not_false_eq_true, reduceCtorEq, beq_true, beq_false, BEq.rfl, Bool.not_true, Bool.not_false, decide_true, decide_false, exists_prop, h1]
  · obtain ⟨hn, ht⟩ := validB_typed h1
    refine ⟨by simp only [maxLen]; omega, by omega, fun b hb => ?_⟩
    rw [zero_bools]
    intro vo hvo
    refine addNil_by 27 1 ?_
    have hz : (List.replicate l.length false).length = l.length := by simp
    generalize hsz : List.replicate l.length false = s0 at *
    have hs0 : Snd l s0 := fun i hi => by rw [← hsz] at hi; simp [List.getElem?_replicate] at hi
    refine aw_loopX 45 (fun g : Nat × List WorkG × Value => [(0, .lst 3 hd (l.map DeclG.av)), (4, .ref (.pointer (some ⟨vo, 0, none⟩)) [blk1 b l.length]), (17, .lst 3 hd (l.map DeclG.av)), (18, .v (.int .i64 l.length)), (19, .v (.int .i64 g.1)),
        (5, .lst 1 g.2.2 (g.2.1.map (WorkG.av (.pointer (some ⟨vo, 0, none⟩)) b l.length)))])
      (fun g => (hp'.setBlk b 4 (bv s0)).setSp ((27, 1, g.2.2) :: hp'.sp)) (fun g => g.1 ≤ l.length ∧ g.2.1.length ≤ g.1 ∧ WOk l g.1 g.2.1) (fun g => l.length - g.1) (0, [], .slice none 0 0)
      ⟨Nat.zero_le _, Nat.le_refl _, fun w hw => (by cases hw), fun i d hi => absurd hi (Nat.not_lt_zero _)⟩ (le_of_cast rfl (by simp only [go_sem, Hp.del_set _ _ _ _ hvo.1]; exact Hp.le_refl _) (by simp [go_sem, Cast.refl, blk1]; exact Cast.nil 1)) ?_
    rintro ⟨k, ws, hw⟩ ⟨hk, hwl, hwo⟩
    simp only at hk hwl hwo
    refine awp_sound (mu := []) _ _ _ ?_
    simp only [go_sem, Int.natCast_nonneg, Nat.reduceEqDiff, Nat.reduceAdd, Nat.reduceSub, Nat.reduceLT, Nat.reduceMul, Nat.reduceBEq, Nat.reduceLeDiff, ↓reduceIte, Int.toNat_natCast, Int.reduceToNat, Int.toNat_zero, Int.toNat_one, not_true_eq_false, false_or, or_self, Nat.reduceGT, Option.isSome_some, Bool.and_self, Nat.zero_add, Nat.mul_one, List.length_map, List.take_length, Int.cast_ofNat_Int, Int.reduceLE, Int.reduceLT, Int.reduceGE, Int.reduceGT, Int.reduceEq, Int.reduceNe, Int.le_refl, Nat.le_refl, Nat.reduceAdd, ne_eq, not_false_eq_true, reduceCtorEq, beq_true, beq_false, BEq.rfl, Bool.not_true, Bool.not_false, decide_true, decide_false, exists_prop, blk1]
    refine brK_mk (fun h => ?_) (fun h => ?_) <;> simp only [go_sem, Int.natCast_nonneg, Nat.reduceEqDiff, Nat.reduceAdd, Nat.reduceSub, Nat.reduceLT, Nat.reduceMul, Nat.reduceBEq, Nat.reduceLeDiff, ↓reduceIte, Int.toNat_natCast, Int.reduceToNat, Int.toNat_zero, Int.toNat_one, not_true_eq_false, false_or, or_self, Nat.reduceGT, Option.isSome_some, Bool.and_self, Nat.zero_add, Nat.mul_one, List.length_map, List.take_length, Int.cast_ofNat_Int, Int.reduceLE, Int.reduceLT, Int.reduceGE, Int.reduceGT, Int.reduceEq, Int.reduceNe, Int.le_refl, Nat.le_refl, Nat.reduceAdd, ne_eq, not_false_eq_true, reduceCtorEq, beq_true, beq_false, BEq.rfl, Bool.not_true, Bool.not_false, decide_true, decide_false, exists_prop, h]
    · have hk' : k < l.length := by simpa using h
      obtain ⟨d, hgd⟩ := some_at l k hk'
      have hcd : d.cs = [.v (.string (bs d.name)), .v (.bool d.codata), .lst 2 d.h (d.xtors.map XtorG.av)] := rfl
      simp only [go_sem, Int.natCast_nonneg, Nat.reduceEqDiff, Nat.reduceAdd, Nat.reduceSub, Nat.reduceLT, Nat.reduceMul, Nat.reduceBEq, Nat.reduceLeDiff, ↓reduceIte, Int.toNat_natCast, Int.reduceToNat, Int.toNat_zero, Int.toNat_one, not_true_eq_false, false_or, or_self, Nat.reduceGT, Option.isSome_some, Bool.and_self, Nat.zero_add, Nat.mul_one, List.length_map, List.take_length, Int.cast_ofNat_Int, Int.reduceLE, Int.reduceLT, Int.reduceGE, Int.reduceGT, Int.reduceEq, Int.reduceNe, Int.le_refl, Nat.le_refl, Nat.reduceAdd, ne_eq, not_false_eq_true, reduceCtorEq, beq_true, beq_false, BEq.rfl, Bool.not_true, Bool.not_false, decide_true, decide_false, exists_prop, h, map_at DeclG.av _ _ _ hgd, DeclG.av, DeclG.cs]
      intro vi hvi vd hvd
      have hnv : vd ≠ vi := by
        rintro rfl
        have := hvd.1; simp [Hp.setBlk] at this
      have hvc : ((hp'.setBlk b 4 (bv s0)).setSp ((27, 1, hw) :: hp'.sp)).blk vd = none := by
        have := hvd.1
        rw [Hp.setBlk_blk, if_neg hnv] at this; exact this
      have hne : (vd = vi) = False := eq_false hnv
      have hne2 : (vi = vd) = False := eq_false (Ne.symm hnv)
      have hds := fun T T' x y => del_set2 ((hp'.setBlk b 4 (bv s0)).setSp ((27, 1, hw) :: hp'.sp)) vi vd T T' x y hvi.1 hnv hvc
      simp only [go_sem, Int.natCast_nonneg, Nat.reduceEqDiff, Nat.reduceAdd, Nat.reduceSub, Nat.reduceLT, Nat.reduceMul, Nat.reduceBEq, Nat.reduceLeDiff, ↓reduceIte, Int.toNat_natCast, Int.reduceToNat, Int.toNat_zero, Int.toNat_one, not_true_eq_false, false_or, or_self, Nat.reduceGT, Option.isSome_some, Bool.and_self, Nat.zero_add, Nat.mul_one, List.length_map, List.take_length, Int.cast_ofNat_Int, Int.reduceLE, Int.reduceLT, Int.reduceGE, Int.reduceGT, Int.reduceEq, Int.reduceNe, Int.le_refl, Nat.le_refl, Nat.reduceAdd, ne_eq, not_false_eq_true, reduceCtorEq, beq_true, beq_false, BEq.rfl, Bool.not_true, Bool.not_false, decide_true, decide_false, exists_prop, hne, hne2]
      refine brK_mk (fun h2 => ?_) (fun h2 => ?_) <;> simp only [go_sem, Int.natCast_nonneg, Nat.reduceEqDiff, Nat.reduceAdd, Nat.reduceSub, Nat.reduceLT, Nat.reduceMul, Nat.reduceBEq, Nat.reduceLeDiff, ↓reduceIte, Int.toNat_natCast, Int.reduceToNat, Int.toNat_zero, Int.toNat_one, not_true_eq_false, false_or, or_self, Nat.reduceGT, Option.isSome_some, Bool.and_self, Nat.zero_add, Nat.mul_one, List.length_map, List.take_length, Int.cast_ofNat_Int, Int.reduceLE, Int.reduceLT, Int.reduceGE, Int.reduceGT, Int.reduceEq, Int.reduceNe, Int.le_refl, Nat.le_refl, Nat.reduceAdd, ne_eq, not_false_eq_true, reduceCtorEq, beq_true, beq_false, BEq.rfl, Bool.not_true, Bool.not_false, decide_true, decide_false, exists_prop, h2, hne, hne2, hds]
      · refine ⟨(k + 1, ws, hw), by simp only; omega, ⟨by simp only; omega, by simp only; omega, hwo.1, ?_⟩, le_mkSl rfl (Hp.le_refl _) ?_⟩
        · intro i e hi hie hc
          rcases Nat.lt_or_eq_of_le (Nat.le_of_lt_succ hi) with hi | rfl
          · exact hwo.2 i e hi hie hc
          · rw [hgd] at hie; obtain rfl := Option.some.inj hie; rw [h2] at hc; cases hc
        · simp [go_sem, wrap_up k _ hk' hl.len, blk1]
      · refine ⟨rfl, by simp, fun hd2 => ?_⟩
        refine append_by (a := .lst 1 hw (ws.map (WorkG.av (.pointer (some ⟨vo, 0, none⟩)) b l.length))) (b := .lst 1 hd2 [WorkG.av (.pointer (some ⟨vo, 0, none⟩)) b l.length ⟨.pointer (some ⟨vd, 0, none⟩), .pointer (some ⟨vi, 0, none⟩), k, d⟩])
          (l1 := [(27, 1, hd2)]) (l2 := hp'.sp) (h := hw) (h2 := hd2) Try.k126 Try.s27 Try.y27 Try.z27 rfl (by decide)
          (by simp [go_sem]) (Cast.refl _) (by simp [go_sem, WorkG.av, blk1, hcd, h2]) (Cast.refl _) (by simp [go_sem]) (by simp [go_sem, WorkG.av, AV.one, AV.val]) (by simp [maxLen]; omega) (by simp; omega) (by simp [go_sem]) (fun h' => ?_)
        simp only [go_sem, Int.natCast_nonneg, Nat.reduceEqDiff, Nat.reduceAdd, Nat.reduceSub, Nat.reduceLT, Nat.reduceMul, Nat.reduceBEq, Nat.reduceLeDiff, ↓reduceIte, Int.toNat_natCast, Int.reduceToNat, Int.toNat_zero, Int.toNat_one, not_true_eq_false, false_or, or_self, Nat.reduceGT, Option.isSome_some, Bool.and_self, Nat.zero_add, Nat.mul_one, List.length_map, List.take_length, Int.cast_ofNat_Int, Int.reduceLE, Int.reduceLT, Int.reduceGE, Int.reduceGT, Int.reduceEq, Int.reduceNe, Int.le_refl, Nat.le_refl, Nat.reduceAdd, ne_eq, not_false_eq_true, reduceCtorEq, beq_true, beq_false, BEq.rfl, Bool.not_true, Bool.not_false, decide_true, decide_false, exists_prop]
        refine ⟨(k + 1, ws ++ [⟨.pointer (some ⟨vd, 0, none⟩), .pointer (some ⟨vi, 0, none⟩), k, d⟩], h'), by simp only; omega, ⟨by simp only; omega, by simp; omega, ?_, ?_⟩, le_mkSl rfl (by simp only [go_sem]; exact le_tail _ _ _ _) ?_⟩
        · intro w hwm
          rcases List.mem_append.1 hwm with hwm | hwm
          · exact hwo.1 w hwm
          · obtain rfl := List.mem_singleton.1 hwm; exact ⟨hgd, h2⟩
        · intro i e hi hie hc
          rcases Nat.lt_or_eq_of_le (Nat.le_of_lt_succ hi) with hi | rfl
          · obtain ⟨w, hw1, hw2⟩ := hwo.2 i e hi hie hc
            exact ⟨w, by simp [hw1], hw2⟩
          · exact ⟨_, List.mem_append_right _ (List.mem_singleton.2 rfl), rfl⟩
        · simp [go_sem, wrap_up k _ hk' hl.len, blk1]
    · have e : k = l.length := by simp at h; omega
      subst e
      refine aw_loopX 45 (fun g : List Bool × Bool => [(4, .ref (.pointer (some ⟨vo, 0, none⟩)) [blk1 b l.length]), (5, .lst 1 hw (ws.map (WorkG.av (.pointer (some ⟨vo, 0, none⟩)) b l.length))), (8, .v (.bool g.2))])
        (fun g => hp'.setBlk b 4 (bv g.1)) (fun g => InvS l g.1 ∧ (g.2 = false → Clo l g.1)) (fun g => 2 * (l.length - cnt g.1) + g.2.toNat) (s0, true)
        ⟨⟨hz, hs0⟩, fun h => by cases h⟩ (le_mkSl rfl (by simp only [go_sem]; exact Hp.le_addSp _ _) (by simp [go_sem, blk1])) ?_
      rintro ⟨s, ch⟩ ⟨⟨hsl, hsn⟩, hsc⟩
      simp only at hsl hsn hsc
      refine awp_sound (mu := []) _ _ _ ?_
      simp only [go_sem, Int.natCast_nonneg, Nat.reduceEqDiff, Nat.reduceAdd, Nat.reduceSub, Nat.reduceLT, Nat.reduceMul, Nat.reduceBEq, Nat.reduceLeDiff, ↓reduceIte, Int.toNat_natCast, Int.reduceToNat, Int.toNat_zero, Int.toNat_one, not_true_eq_false, false_or, or_self, Nat.reduceGT, Option.isSome_some, Bool.and_self, Nat.zero_add, Nat.mul_one, List.length_map, List.take_length, Int.cast_ofNat_Int, Int.reduceLE, Int.reduceLT, Int.reduceGE, Int.reduceGT, Int.reduceEq, Int.reduceNe, Int.le_refl, Nat.le_refl, Nat.reduceAdd, ne_eq, not_false_eq_true, reduceCtorEq, beq_true, beq_false, BEq.rfl, Bool.not_true, Bool.not_false, decide_true, decide_false, exists_prop, blk1]
      refine brK_mk (fun h2 => ?_) (fun h2 => ?_) <;> simp only [go_sem, Int.natCast_nonneg, Nat.reduceEqDiff, Nat.reduceAdd, Nat.reduceSub, Nat.reduceLT, Nat.reduceMul, Nat.reduceBEq, Nat.reduceLeDiff, ↓reduceIte, Int.toNat_natCast, Int.reduceToNat, Int.toNat_zero, Int.toNat_one, not_true_eq_false, false_or, or_self, Nat.reduceGT, Option.isSome_some, Bool.and_self, Nat.zero_add, Nat.mul_one, List.length_map, List.take_length, Int.cast_ofNat_Int, Int.reduceLE, Int.reduceLT, Int.reduceGE, Int.reduceGT, Int.reduceEq, Int.reduceNe, Int.le_refl, Nat.le_refl, Nat.reduceAdd, ne_eq, not_false_eq_true, reduceCtorEq, beq_true, beq_false, BEq.rfl, Bool.not_true, Bool.not_false, decide_true, decide_false, exists_prop, h2]
      · subst h2
        refine aw_loopX 45 (fun g : Nat × List Bool × Bool => [(4, .ref (.pointer (some ⟨vo, 0, none⟩)) [blk1 b l.length]), (5, .lst 1 hw (ws.map (WorkG.av (.pointer (some ⟨vo, 0, none⟩)) b l.length))), (8, .v (.bool g.2.2)),
            (32, .lst 1 hw (ws.map (WorkG.av (.pointer (some ⟨vo, 0, none⟩)) b l.length))), (33, .v (.int .i64 ws.length)), (34, .v (.int .i64 g.1))])
          (fun g => hp'.setBlk b 4 (bv g.2.1)) (fun g => g.1 ≤ ws.length ∧ InvW l ws s g.1 g.2.1 g.2.2) (fun g => ws.length - g.1) (0, s, false)
          ⟨Nat.zero_le _, ⟨hsl, hsn⟩, fun _ => ⟨rfl, fun w hw => by simp at hw⟩, fun h => by cases h⟩ (le_mkSl rfl (Hp.le_refl _) (by simp [go_sem, blk1])) ?_
        rintro ⟨j, t, c⟩ ⟨hj, ⟨htl, htn⟩, hcf, hct⟩
        simp only at hj htl htn hcf hct
        refine awp_sound (mu := []) _ _ _ ?_
        simp only [go_sem, Int.natCast_nonneg, Nat.reduceEqDiff, Nat.reduceAdd, Nat.reduceSub, Nat.reduceLT, Nat.reduceMul, Nat.reduceBEq, Nat.reduceLeDiff, ↓reduceIte, Int.toNat_natCast, Int.reduceToNat, Int.toNat_zero, Int.toNat_one, not_true_eq_false, false_or, or_self, Nat.reduceGT, Option.isSome_some, Bool.and_self, Nat.zero_add, Nat.mul_one, List.length_map, List.take_length, Int.cast_ofNat_Int, Int.reduceLE, Int.reduceLT, Int.reduceGE, Int.reduceGT, Int.reduceEq, Int.reduceNe, Int.le_refl, Nat.le_refl, Nat.reduceAdd, ne_eq, not_false_eq_true, reduceCtorEq, beq_true, beq_false, BEq.rfl, Bool.not_true, Bool.not_false, decide_true, decide_false, exists_prop, blk1]
        refine brK_mk (fun h3 => ?_) (fun h3 => ?_) <;> simp only [go_sem, Int.natCast_nonneg, Nat.reduceEqDiff, Nat.reduceAdd, Nat.reduceSub, Nat.reduceLT, Nat.reduceMul, Nat.reduceBEq, Nat.reduceLeDiff, ↓reduceIte, Int.toNat_natCast, Int.reduceToNat, Int.toNat_zero, Int.toNat_one, not_true_eq_false, false_or, or_self, Nat.reduceGT, Option.isSome_some, Bool.and_self, Nat.zero_add, Nat.mul_one, List.length_map, List.take_length, Int.cast_ofNat_Int, Int.reduceLE, Int.reduceLT, Int.reduceGE, Int.reduceGT, Int.reduceEq, Int.reduceNe, Int.le_refl, Nat.le_refl, Nat.reduceAdd, ne_eq, not_false_eq_true, reduceCtorEq, beq_true, beq_false, BEq.rfl, Bool.not_true, Bool.not_false, decide_true, decide_false, exists_prop, h3]
        · have hj' : j < ws.length := by simpa using h3
          obtain ⟨w, hwg⟩ := some_at ws j hj'
          obtain ⟨hwi, hwc⟩ := hwo.1 w (List.mem_of_getElem? hwg)
          have hwlt : w.i < l.length := (List.getElem?_eq_some_iff.1 hwi).1
          simp only [go_sem, Int.natCast_nonneg, Nat.reduceEqDiff, Nat.reduceAdd, Nat.reduceSub, Nat.reduceLT, Nat.reduceMul, Nat.reduceBEq, Nat.reduceLeDiff, ↓reduceIte, Int.toNat_natCast, Int.reduceToNat, Int.toNat_zero, Int.toNat_one, not_true_eq_false, false_or, or_self, Nat.reduceGT, Option.isSome_some, Bool.and_self, Nat.zero_add, Nat.mul_one, List.length_map, List.take_length, Int.cast_ofNat_Int, Int.reduceLE, Int.reduceLT, Int.reduceGE, Int.reduceGT, Int.reduceEq, Int.reduceNe, Int.le_refl, Nat.le_refl, Nat.reduceAdd, ne_eq, not_false_eq_true, reduceCtorEq, beq_true, beq_false, BEq.rfl, Bool.not_true, Bool.not_false, decide_true, decide_false, exists_prop, h3, map_at (WorkG.av (.pointer (some ⟨vo, 0, none⟩)) b l.length) _ _ _ hwg, WorkG.av]
          have hcall := small1_calls w.d w.pd (.pointer (some ⟨vo, 0, none⟩)) w.pi w.i b t (by simp only [maxLen]; omega) (by omega) (fun x hx a ha => by rw [htl]; exact ht w.d (List.mem_of_getElem? hwi) x hx a ha) (hp'.setBlk b 4 (bv t)) (by simp [Hp.setBlk])
          rw [htl] at hcall
          refine callX_by hcall ?_
          rintro r hp2 ⟨c', t', rfl, rfl, hi1, hi2⟩
          have hwsm := wrap_up j _ hj' (by simp only [maxLen]; omega)
          rcases hc' : c' <;> simp only [go_sem, Int.natCast_nonneg, Nat.reduceEqDiff, Nat.reduceAdd, Nat.reduceSub, Nat.reduceLT, Nat.reduceMul, Nat.reduceBEq, Nat.reduceLeDiff, ↓reduceIte, Int.toNat_natCast, Int.reduceToNat, Int.toNat_zero, Int.toNat_one, not_true_eq_false, false_or, or_self, Nat.reduceGT, Option.isSome_some, Bool.and_self, Nat.zero_add, Nat.mul_one, List.length_map, List.take_length, Int.cast_ofNat_Int, Int.reduceLE, Int.reduceLT, Int.reduceGE, Int.reduceGT, Int.reduceEq, Int.reduceNe, Int.le_refl, Nat.le_refl, Nat.reduceAdd, ne_eq, not_false_eq_true, reduceCtorEq, beq_true, beq_false, BEq.rfl, Bool.not_true, Bool.not_false, decide_true, decide_false, exists_prop, hc']
          · obtain ⟨rfl, hcl⟩ := hi1 hc'
            refine ⟨(j + 1, t', c), by simp only; omega, ⟨by simp only; omega, ⟨htl, htn⟩, fun hc => ?_, hct⟩, le_mkSl rfl (Hp.le_refl _) ?_⟩
            · obtain ⟨rfl, hall⟩ := hcf hc
              refine ⟨rfl, fun y hy x hx hb => ?_⟩
              rcases (take_snoc hwg y).1 hy with hy | rfl
              · exact hall y hy x hx hb
              · exact hcl x hx hb
            · simp [go_sem, hwsm, blk1]
          · obtain ⟨hf, rfl, x, hxm, hxb⟩ := hi2 hc'
            have hup : cnt t < cnt (t.set w.i true) := by
              obtain ⟨c1, c2⟩ := cnt_up (s := t) (t := t.set w.i true) (by simp) (up_set _ _)
              rcases Nat.lt_or_ge (cnt t) (cnt (t.set w.i true)) with h | h
              · exact h
              · have := c2 (by omega)
                rw [this, List.getElem?_set, if_pos rfl, if_pos (by omega)] at hf; cases hf
            refine ⟨(j + 1, t.set w.i true, true), by simp only; omega, ⟨by simp only; omega, ⟨by simp [htl], htn.step hwi hwc hxm hxb⟩, fun hc => (by cases hc), fun _ => ?_⟩, le_mkSl rfl (Hp.le_refl _) ?_⟩
            · show cnt s < cnt (t.set w.i true)
              rcases hcc : c
              · rw [← (hcf hcc).1]; exact hup
              · have := hct hcc; omega
            · simp [go_sem, hwsm, blk1]
        · have e : ws.length ≤ j := by simp at h3; omega
          have c1 := cnt_le t
          refine ⟨(t, c), ?_, ⟨⟨htl, htn⟩, fun hc => ?_⟩, le_mkSl rfl (Hp.le_refl _) ?_⟩
          · simp only
            rcases hcc : c
            · rw [(hcf hcc).1]; simp
            · have := hct hcc; simp; omega
          · obtain ⟨rfl, hall⟩ := hcf hc
            intro i d x h1 h2 h3 h4
            obtain ⟨w, hwm, rfl⟩ := hwo.2 i d (List.getElem?_eq_some_iff.1 h1).1 h1 h2
            have hwd : w.d = d := by have := (hwo.1 w hwm).1; rw [h1] at this; exact (Option.some.inj this).symm
            exact hall w (by rw [List.take_of_length_le e]; exact hwm) x (hwd ▸ h3) h4
          · simp [go_sem, blk1]
      · exact ret_same (.inr ⟨h1, b, s, isSmall_of hsl hsn (hsc h2), rfl, hb, rfl⟩)
  · exact ret_same (.inl ⟨h1, rfl, rfl⟩)
end Go.Proofs.Ytfdlfcafcjhpmaa
