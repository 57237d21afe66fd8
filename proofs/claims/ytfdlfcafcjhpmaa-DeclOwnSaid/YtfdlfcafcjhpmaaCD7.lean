/- Small: the data types with values of finite size. -/
import Derived.Test.YtfdlfcafcjhpmaaCD6
set_option linter.unusedSimpArgs false
set_option linter.unusedVariables false
set_option maxRecDepth 20000
namespace Go.Proofs.Ytfdlfcafcjhpmaa
open Go.AL

def bv (l : List Bool) : List AV := l.map fun b => .v (.bool b)
def blk1 (b n : Nat) : AV := .v (.slice (some ⟨b, 0, none⟩) n n)
theorem bv_drop (l : List Bool) (i : Nat) (x : Bool) (h : l[i]? = some x) : (bv l).drop i = .v (.bool x) :: (bv l).drop (i + 1) := drop_at _ _ _ (map_at (fun b => AV.v (.bool b)) _ _ _ h)
theorem bv_len (l : List Bool) : (bv l).length = l.length := by simp [bv]
theorem bv_set (l : List Bool) (i : Nat) (x : Bool) (h : i < l.length) : splice (bv l) i [.v (.bool x)] = bv (l.set i x) := by
  simp only [splice, bv, List.length_singleton]
  rw [List.map_set]
  rw [List.set_eq_take_append_cons_drop, if_pos (by simpa using h)]
  simp

/-- All arguments are producers of integers or of types that are known to be small. -/
def builtA (s : List Bool) (a : ArgG) : Bool := !(a.co || (decide (a.typ > 0) && !(s[(a.typ - 1).toNat]?.getD false)))

theorem built_calls (x : XtorG) (b : Nat) (s : List Bool) (hs : s.length ≤ maxLen) (hx : ∀ a ∈ x.args, a.typ ≤ s.length) (hp : Hp) (hb : hp.blk b = some (4, bv s)) :
    ACalls Try.prog 81 [x.av, blk1 b s.length] hp (fun r hp' => r = .v (.bool (x.args.all (builtA s))) ∧ hp' = hp) := by
  refine acalls_fit (callable_of Try.func81 (by decide +kernel)) fun hfit => ?_
  have hl := fit_xtor hfit.1
  refine acalls_of Try.func81 rfl (by decide +kernel) (awp_sound (mu := []) _ _ _ ?_)
  simp only [go_sem, Int.natCast_nonneg, Nat.reduceEqDiff, Nat.reduceAdd, Nat.reduceSub, Nat.reduceLT, Nat.reduceMul, Nat.reduceBEq, Nat.reduceLeDiff, ↓reduceIte, Int.toNat_natCast, Int.reduceToNat, Int.toNat_zero, Int.toNat_one, not_true_eq_false, false_or, or_self, Nat.reduceGT, Option.isSome_some, Bool.and_self, Nat.zero_add, Nat.mul_one, List.length_map, List.take_length, Int.cast_ofNat_Int, Int.reduceLE, Int.reduceLT, Int.reduceGE, Int.reduceGT, Int.reduceEq, Int.reduceNe, Int.le_refl, Nat.le_refl, Nat.reduceAdd, ne_eq, not_false_eq_true, reduceCtorEq, beq_true, beq_false, BEq.rfl, Bool.not_true, Bool.not_false, decide_true, decide_false, exists_prop, XtorG.av, XtorG.cs, blk1]
  intro p
  refine aw_loopX 31 (fun k : Nat => [(1, blk1 b s.length), (8, .lst 2 x.h (x.args.map ArgG.av)), (9, .v (.int .i64 x.args.length)), (10, .v (.int .i64 k))])
    (fun _ => hp) (fun k => k ≤ x.args.length ∧ (x.args.drop k).all (builtA s) = x.args.all (builtA s)) (fun k => x.args.length - k) 0
    ⟨Nat.zero_le _, rfl⟩ (le_mkSl rfl (Hp.le_refl _) (by simp [go_sem, blk1])) ?_
  rintro k ⟨hk, hall⟩
  refine awp_sound (mu := []) _ _ _ ?_
  simp only [go_sem, Int.natCast_nonneg, Nat.reduceEqDiff, Nat.reduceAdd, Nat.reduceSub, Nat.reduceLT, Nat.reduceMul, Nat.reduceBEq, Nat.reduceLeDiff, ↓reduceIte, Int.toNat_natCast, Int.reduceToNat, Int.toNat_zero, Int.toNat_one, not_true_eq_false, false_or, or_self, Nat.reduceGT, Option.isSome_some, Bool.and_self, Nat.zero_add, Nat.mul_one, List.length_map, List.take_length, Int.cast_ofNat_Int, Int.reduceLE, Int.reduceLT, Int.reduceGE, Int.reduceGT, Int.reduceEq, Int.reduceNe, Int.le_refl, Nat.le_refl, Nat.reduceAdd, ne_eq, not_false_eq_true, reduceCtorEq, beq_true, beq_false, BEq.rfl, Bool.not_true, Bool.not_false, decide_true, decide_false, exists_prop, blk1]
  refine brK_mk (fun h => ?_) (fun h => ?_) <;> simp only [go_sem, Int.natCast_nonneg, Nat.reduceEqDiff, Nat.reduceAdd, Nat.reduceSub, Nat.reduceLT, Nat.reduceMul, Nat.reduceBEq, Nat.reduceLeDiff, ↓reduceIte, Int.toNat_natCast, Int.reduceToNat, Int.toNat_zero, Int.toNat_one, not_true_eq_false, false_or, or_self, Nat.reduceGT, Option.isSome_some, Bool.and_self, Nat.zero_add, Nat.mul_one, List.length_map, List.take_length, Int.cast_ofNat_Int, Int.reduceLE, Int.reduceLT, Int.reduceGE, Int.reduceGT, Int.reduceEq, Int.reduceNe, Int.le_refl, Nat.le_refl, Nat.reduceAdd, ne_eq, not_false_eq_true, reduceCtorEq, beq_true, beq_false, BEq.rfl, Bool.not_true, Bool.not_false, decide_true, decide_false, exists_prop, h]
  · have hk' : k < x.args.length := by simpa using h
    obtain ⟨a, hg⟩ := some_at x.args k hk'
    have hat := hx a (List.mem_of_getElem? hg)
    rw [drop_at _ k _ hg, List.all_cons] at hall
    simp only [go_sem, Int.natCast_nonneg, Nat.reduceEqDiff, Nat.reduceAdd, Nat.reduceSub, Nat.reduceLT, Nat.reduceMul, Nat.reduceBEq, Nat.reduceLeDiff, ↓reduceIte, Int.toNat_natCast, Int.reduceToNat, Int.toNat_zero, Int.toNat_one, not_true_eq_false, false_or, or_self, Nat.reduceGT, Option.isSome_some, Bool.and_self, Nat.zero_add, Nat.mul_one, List.length_map, List.take_length, Int.cast_ofNat_Int, Int.reduceLE, Int.reduceLT, Int.reduceGE, Int.reduceGT, Int.reduceEq, Int.reduceNe, Int.le_refl, Nat.le_refl, Nat.reduceAdd, ne_eq, not_false_eq_true, reduceCtorEq, beq_true, beq_false, BEq.rfl, Bool.not_true, Bool.not_false, decide_true, decide_false, exists_prop, h, map_at ArgG.av _ _ _ hg, ArgG.av, ArgG.cs]
    intro v hv
    have hds := fun T cs => Hp.del_set _ _ T cs hv.1
    have next : ∀ st' : St, builtA s a = true → St.le ⟨31, mkSl [(1, blk1 b s.length), (8, .lst 2 x.h (x.args.map ArgG.av)), (9, .v (.int .i64 x.args.length)), (10, .v (.int .i64 ((k + 1 : Nat) : Int)))], hp⟩ st' → 
        ∃ y, x.args.length - y < x.args.length - k ∧ (y ≤ x.args.length ∧ (x.args.drop y).all (builtA s) = x.args.all (builtA s)) ∧ St.le ⟨31, mkSl [(1, blk1 b s.length), (8, .lst 2 x.h (x.args.map ArgG.av)), (9, .v (.int .i64 x.args.length)), (10, .v (.int .i64 y))], hp⟩ st' :=
      fun st' hs hle => ⟨k + 1, by omega, ⟨by omega, by rw [← hall, hs, Bool.true_and]⟩, hle⟩
    refine brK_mk (fun h2 => ?_) (fun h2 => ?_) <;> simp only [go_sem, Int.natCast_nonneg, Nat.reduceEqDiff, Nat.reduceAdd, Nat.reduceSub, Nat.reduceLT, Nat.reduceMul, Nat.reduceBEq, Nat.reduceLeDiff, ↓reduceIte, Int.toNat_natCast, Int.reduceToNat, Int.toNat_zero, Int.toNat_one, not_true_eq_false, false_or, or_self, Nat.reduceGT, Option.isSome_some, Bool.and_self, Nat.zero_add, Nat.mul_one, List.length_map, List.take_length, Int.cast_ofNat_Int, Int.reduceLE, Int.reduceLT, Int.reduceGE, Int.reduceGT, Int.reduceEq, Int.reduceNe, Int.le_refl, Nat.le_refl, Nat.reduceAdd, ne_eq, not_false_eq_true, reduceCtorEq, beq_true, beq_false, BEq.rfl, Bool.not_true, Bool.not_false, decide_true, decide_false, exists_prop, h2, hds]
    · have hb' : builtA s a = false := by simp only [builtA, h2, Bool.and_true, Bool.true_and, Bool.and_false, Bool.false_and, Bool.or_true, Bool.true_or, Bool.or_false, Bool.false_or, Bool.not_true, Bool.not_false]
      exact ret_same ⟨by rw [← hall, hb', Bool.false_and], rfl⟩
    · refine brK_mk (fun h3 => ?_) (fun h3 => ?_) <;> simp only [go_sem, Int.natCast_nonneg, Nat.reduceEqDiff, Nat.reduceAdd, Nat.reduceSub, Nat.reduceLT, Nat.reduceMul, Nat.reduceBEq, Nat.reduceLeDiff, ↓reduceIte, Int.toNat_natCast, Int.reduceToNat, Int.toNat_zero, Int.toNat_one, not_true_eq_false, false_or, or_self, Nat.reduceGT, Option.isSome_some, Bool.and_self, Nat.zero_add, Nat.mul_one, List.length_map, List.take_length, Int.cast_ofNat_Int, Int.reduceLE, Int.reduceLT, Int.reduceGE, Int.reduceGT, Int.reduceEq, Int.reduceNe, Int.le_refl, Nat.le_refl, Nat.reduceAdd, ne_eq, not_false_eq_true, reduceCtorEq, beq_true, beq_false, BEq.rfl, Bool.not_true, Bool.not_false, decide_true, decide_false, exists_prop, h3, hds]
      · have h3' := h3; simp at h3'
        obtain ⟨t, ht⟩ := some_at s (a.typ - 1).toNat (by omega)
        have hw : IntKind.i64.wrap (a.typ - 1) = a.typ - 1 := wrap_t (t := a.typ) _ (by omega) hat hs
        have hne : (b = v) = False := by
          apply eq_false; rintro rfl
          have := hv.1; rw [hb] at this; cases this
        simp only [go_sem, Int.natCast_nonneg, Nat.reduceEqDiff, Nat.reduceAdd, Nat.reduceSub, Nat.reduceLT, Nat.reduceMul, Nat.reduceBEq, Nat.reduceLeDiff, ↓reduceIte, Int.toNat_natCast, Int.reduceToNat, Int.toNat_zero, Int.toNat_one, not_true_eq_false, false_or, or_self, Nat.reduceGT, Option.isSome_some, Bool.and_self, Nat.zero_add, Nat.mul_one, List.length_map, List.take_length, Int.cast_ofNat_Int, Int.reduceLE, Int.reduceLT, Int.reduceGE, Int.reduceGT, Int.reduceEq, Int.reduceNe, Int.le_refl, Nat.le_refl, Nat.reduceAdd, ne_eq, not_false_eq_true, reduceCtorEq, beq_true, beq_false, BEq.rfl, Bool.not_true, Bool.not_false, decide_true, decide_false, exists_prop, hw, hds, hb, bv_drop _ _ _ ht]
        refine ⟨by omega, by omega, ?_⟩
        refine brK_mk (fun h4 => ?_) (fun h4 => ?_) <;> simp only [go_sem, Int.natCast_nonneg, Nat.reduceEqDiff, Nat.reduceAdd, Nat.reduceSub, Nat.reduceLT, Nat.reduceMul, Nat.reduceBEq, Nat.reduceLeDiff, ↓reduceIte, Int.toNat_natCast, Int.reduceToNat, Int.toNat_zero, Int.toNat_one, not_true_eq_false, false_or, or_self, Nat.reduceGT, Option.isSome_some, Bool.and_self, Nat.zero_add, Nat.mul_one, List.length_map, List.take_length, Int.cast_ofNat_Int, Int.reduceLE, Int.reduceLT, Int.reduceGE, Int.reduceGT, Int.reduceEq, Int.reduceNe, Int.le_refl, Nat.le_refl, Nat.reduceAdd, ne_eq, not_false_eq_true, reduceCtorEq, beq_true, beq_false, BEq.rfl, Bool.not_true, Bool.not_false, decide_true, decide_false, exists_prop, h4, hds]
        · refine next _ (by simp only [builtA, h2, h3, ht, h4, Bool.and_true, Bool.true_and, Bool.and_false, Bool.false_and, Bool.or_true, Bool.true_or, Bool.or_false, Bool.false_or, Bool.not_true, Bool.not_false, Option.getD_some]) (le_mkSl rfl (Hp.le_refl _) ?_)
          simp [go_sem, wrap_up k _ hk' hl, blk1]
        · have hb' : builtA s a = false := by simp only [builtA, h2, h3, ht, h4, Bool.and_true, Bool.true_and, Bool.and_false, Bool.false_and, Bool.or_true, Bool.true_or, Bool.or_false, Bool.false_or, Bool.not_true, Bool.not_false, Option.getD_some]
          exact ret_same ⟨by rw [← hall, hb', Bool.false_and], rfl⟩
      · refine next _ (by simp only [builtA, h2, h3, Bool.and_true, Bool.true_and, Bool.and_false, Bool.false_and, Bool.or_true, Bool.true_or, Bool.or_false, Bool.false_or, Bool.not_true, Bool.not_false]) (le_mkSl rfl (Hp.le_refl _) ?_)
        simp [go_sem, wrap_up k _ hk' hl, blk1]
  · have e : x.args.length ≤ k := by simp at h; omega
    exact ret_same ⟨by rw [← hall, List.drop_of_length_le e]; rfl, rfl⟩

/-! ### What is small -/
inductive Sm (l : List DeclG) : Nat → Prop where
  | mk (i : Nat) (d : DeclG) (x : XtorG) (h1 : l[i]? = some d) (h2 : d.codata = false) (h3 : x ∈ d.xtors) (h4 : ∀ a ∈ x.args, a.co = false) (h5 : ∀ a ∈ x.args, 0 < a.typ → Sm l (a.typ - 1).toNat) : Sm l i

def Snd (l : List DeclG) (s : List Bool) : Prop := ∀ i : Nat, s[i]? = some true → Sm l i
def Clo (l : List DeclG) (s : List Bool) : Prop := ∀ (i : Nat) (d : DeclG) (x : XtorG), l[i]? = some d → d.codata = false → x ∈ d.xtors → x.args.all (builtA s) = true → s[i]? = some true
def Up (s t : List Bool) : Prop := ∀ i : Nat, s[i]? = some true → t[i]? = some true
/-- The answer: its length, and which places hold true. -/
def IsSmall (l : List DeclG) (s : List Bool) : Prop := s.length = l.length ∧ ∀ i : Nat, s[i]? = some true ↔ Sm l i

theorem builtA_true {s : List Bool} {a : ArgG} : builtA s a = true ↔ a.co = false ∧ (0 < a.typ → s[(a.typ - 1).toNat]? = some true) := by
  unfold builtA
  by_cases h : 0 < a.typ
  · cases a.co <;> cases s[(a.typ - 1).toNat]? <;> simp [h]
  · cases a.co <;> simp [h]

theorem all_built {s : List Bool} {x : XtorG} : x.args.all (builtA s) = true ↔ ∀ a ∈ x.args, a.co = false ∧ (0 < a.typ → s[(a.typ - 1).toNat]? = some true) := by
  rw [List.all_eq_true]
  exact ⟨fun h a ha => builtA_true.1 (h a ha), fun h a ha => builtA_true.2 (h a ha)⟩

theorem Snd.step {l : List DeclG} {s : List Bool} (h : Snd l s) {i : Nat} {d : DeclG} {x : XtorG} (hd : l[i]? = some d) (hc : d.codata = false) (hx : x ∈ d.xtors) (hb : x.args.all (builtA s) = true) : Snd l (s.set i true) := by
  intro j hj
  rw [List.getElem?_set] at hj
  split at hj
  · rename_i e; subst e
    rw [all_built] at hb
    exact .mk i d x hd hc hx (fun a ha => (hb a ha).1) (fun a ha ht => h _ ((hb a ha).2 ht))
  · exact h j hj

theorem up_set (s : List Bool) (i : Nat) : Up s (s.set i true) := by
  intro j hj
  rw [List.getElem?_set]
  split
  · rename_i e; subst e
    rw [if_pos (List.getElem?_eq_some_iff.1 hj).1]
  · exact hj

theorem Up.built {s t : List Bool} (h : Up s t) {x : XtorG} (hb : x.args.all (builtA s) = true) : x.args.all (builtA t) = true := by
  rw [all_built] at hb ⊢
  exact fun a ha => ⟨(hb a ha).1, fun ht => h _ ((hb a ha).2 ht)⟩

theorem Clo.least {l : List DeclG} {s : List Bool} (h : Clo l s) : ∀ i : Nat, Sm l i → s[i]? = some true := by
  intro i hi
  induction hi with
  | mk i d x h1 h2 h3 h4 h5 ih => exact h i d x h1 h2 h3 (all_built.2 fun a ha => ⟨h4 a ha, ih a ha⟩)

theorem isSmall_of {l : List DeclG} {s : List Bool} (hl : s.length = l.length) (h1 : Snd l s) (h2 : Clo l s) : IsSmall l s := ⟨hl, fun i => ⟨h1 i, h2.least i⟩⟩

theorem isSmall_unique {l : List DeclG} {s t : List Bool} (h1 : IsSmall l s) (h2 : IsSmall l t) : s = t := by
  apply List.ext_getElem?
  intro i
  have e : s[i]? = some true ↔ t[i]? = some true := (h1.2 i).trans (h2.2 i).symm
  rcases Nat.lt_or_ge i l.length with h | h
  · obtain ⟨a, ha⟩ := some_at s i (by have := h1.1; omega)
    obtain ⟨b, hb⟩ := some_at t i (by have := h2.1; omega)
    rw [ha, hb] at e ⊢
    cases a <;> cases b <;> simp at e ⊢
  · have a := h1.1; have b := h2.1
    rw [List.getElem?_eq_none (by omega), List.getElem?_eq_none (by omega)]

def cnt (s : List Bool) : Nat := (s.filter id).length
theorem cnt_le (s : List Bool) : cnt s ≤ s.length := List.length_filter_le _ _
theorem cnt_up : ∀ {s t : List Bool}, s.length = t.length → Up s t → cnt s ≤ cnt t ∧ (cnt s = cnt t → s = t)
  | [], [], _, _ => ⟨Nat.le_refl _, fun _ => rfl⟩
  | [], _ :: _, h, _ => by simp at h
  | _ :: _, [], h, _ => by simp at h
  | a :: s, b :: t, h, hu => by
    obtain ⟨h1, h2⟩ := cnt_up (s := s) (t := t) (by simpa using h) (fun i hi => by have := hu (i + 1) (by simpa using hi); simpa using this)
    have h0 : a = true → b = true := fun ha => by have := hu 0 (by simp [ha]); simpa using this
    cases a <;> cases b <;> simp [cnt] at h0 h1 h2 ⊢
    · exact ⟨h1, h2⟩
    · omega
    · exact ⟨h1, h2⟩
theorem cnt_all {s : List Bool} (h : s.length ≤ cnt s) : ∀ i, i < s.length → s[i]? = some true := by
  intro i hi
  have : s.filter id = s := by
    rw [List.filter_eq_self]
    have := List.length_filter_eq_length_iff.1 (Nat.le_antisymm (List.length_filter_le id s) h)
    exact this
  rw [List.getElem?_eq_getElem hi]
  have hm : s[i] ∈ s.filter id := by rw [this]; exact List.getElem_mem hi
  rw [List.mem_filter] at hm
  simpa using hm.2
end Go.Proofs.Ytfdlfcafcjhpmaa
