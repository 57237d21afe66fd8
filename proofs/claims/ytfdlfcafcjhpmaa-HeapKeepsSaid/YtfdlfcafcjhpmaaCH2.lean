/- A heap's space: what its lists hold; looking. -/
import Derived.Test.YtfdlfcafcjhpmaaCTy
import Derived.Test.YtfdlfcafcjhpmaaCAL26
import Derived.Test.YtfdlfcafcjhpmaaCAL22
import Derived.Test.YtfdlfcafcjhpmaaCAL27
set_option linter.unusedSimpArgs false
set_option linter.unusedVariables false
set_option maxRecDepth 20000
set_option maxHeartbeats 4000000
namespace Go.Proofs.Ytfdlfcafcjhpmaa
open Go.AL

structure WordG where
  ref : Bool
  n : Int
  deriving DecidableEq
def WordG.cs (w : WordG) : List AV := [.v (.bool w.ref), .v (.int .i64 w.n)]
def WordG.av (w : WordG) : AV := .agg w.cs
def iv (n : Int) : AV := .v (.int .i64 n)
def wordsAV (h : Value) (l : List WordG) : AV := .lst 2 h (l.map WordG.av)
def intsAV (h : Value) (l : List Int) : AV := .lst 1 h (l.map iv)
/-- A space: its cells, sizes and addresses. -/
structure SpG where
  c : List WordG
  s : List Int
  o : List Int
def HeapV (size : Int) (hc hs ho : Value) (g : SpG) : List AV := [iv size, wordsAV hc g.c, intsAV hs g.s, intsAV ho g.o]
def hptrAV (b : Nat) : AV := .v (.pointer (some ⟨b, 0, none⟩))
def sptrAV (b : Nat) : AV := .v (.pointer (some ⟨b, 1, none⟩))
def hasL (s : List Int) (a : Int) : Bool := decide (a ≥ 0) && decide (a < s.length) && decide ((s[a.toNat]?).getD 0 > 0)

theorem map_at' {α β : Type} (f : α → β) (l : List α) (k : Nat) (x : α) (h : l[k]? = some x) : (l.map f)[k]? = some (f x) := by rw [List.getElem?_map, h]; rfl
theorem some_at' {α : Type} (l : List α) (k : Nat) (h : k < l.length) : ∃ x, l[k]? = some x := ⟨l[k], List.getElem?_eq_getElem h⟩

/-! ### Valid words -/
def badW (s : List Int) (w : WordG) : Bool := w.ref && !hasL s w.n
def idxBad (s : List Int) : List WordG → Nat → Int
  | [], _ => -1
  | w :: r, k => if badW s w = true then (k : Int) else idxBad s r (k + 1)
def validL (s : List Int) (l : List WordG) : Bool := l.all fun w => !badW s w
theorem idxBad_ge (s : List Int) : ∀ (l : List WordG) (k : Nat), decide (idxBad s l k ≥ 0) = !validL s l
  | [], k => by simp [idxBad, validL]
  | w :: r, k => by
    have ih := idxBad_ge s r (k + 1)
    by_cases h : badW s w = true
    · rw [idxBad, if_pos h]
      simp [validL, h]
    · have h' : badW s w = false := by simpa using h
      rw [idxBad, if_neg h, ih]
      simp [validL, h']

section
variable {hb : Nat} {size : Int} {hc hs ho : Value} {g : SpG} {hp : Hp}

theorem has_calls' (hblk : hp.blk hb = some (105, HeapV size hc hs ho g)) (a : Int) : ACalls Try.prog 89 [sptrAV hb, iv a] hp (fun r hp' => r = .v (.bool (hasL g.s a)) ∧ hp' = hp) := by
  refine acalls_of Try.func89 rfl (by decide +kernel) (awp_sound (mu := []) _ _ _ ?_)
  simp only [go_sem, Int.natCast_nonneg, Nat.reduceEqDiff, Nat.reduceAdd, Nat.reduceSub, Nat.reduceLT, Nat.reduceMul, Nat.reduceBEq, Nat.reduceLeDiff, ↓reduceIte, Int.toNat_natCast, Int.reduceToNat, Int.toNat_zero, Int.toNat_one, not_true_eq_false, false_or, or_self, Nat.reduceGT, Option.isSome_some, Bool.and_self, Nat.zero_add, Nat.mul_one, List.length_map, List.take_length, Int.cast_ofNat_Int, Int.reduceLE, Int.reduceLT, Int.reduceGE, Int.reduceGT, Int.reduceEq, Int.reduceNe, Int.le_refl, Nat.le_refl, Nat.reduceAdd, ne_eq, not_false_eq_true, reduceCtorEq, beq_true, beq_false, BEq.rfl, Bool.not_true, Bool.not_false, decide_true, decide_false, exists_prop, hblk, HeapV, sptrAV, iv, intsAV, wordsAV]
  refine brK_mk (fun h1 => ?_) (fun h1 => ?_) <;> simp only [go_sem, Int.natCast_nonneg, Nat.reduceEqDiff, Nat.reduceAdd, Nat.reduceSub, Nat.reduceLT, Nat.reduceMul, Nat.reduceBEq, Nat.reduceLeDiff, ↓reduceIte, Int.toNat_natCast, Int.reduceToNat, Int.toNat_zero, Int.toNat_one, not_true_eq_false, false_or, or_self, Nat.reduceGT, Option.isSome_some, Bool.and_self, Nat.zero_add, Nat.mul_one, List.length_map, List.take_length, Int.cast_ofNat_Int, Int.reduceLE, Int.reduceLT, Int.reduceGE, Int.reduceGT, Int.reduceEq, Int.reduceNe, Int.le_refl, Nat.le_refl, Nat.reduceAdd, ne_eq, not_false_eq_true, reduceCtorEq, beq_true, beq_false, BEq.rfl, Bool.not_true, Bool.not_false, decide_true, decide_false, exists_prop, h1, hblk, HeapV, intsAV, wordsAV]
  · refine brK_mk (fun h2 => ?_) (fun h2 => ?_) <;> simp only [go_sem, Int.natCast_nonneg, Nat.reduceEqDiff, Nat.reduceAdd, Nat.reduceSub, Nat.reduceLT, Nat.reduceMul, Nat.reduceBEq, Nat.reduceLeDiff, ↓reduceIte, Int.toNat_natCast, Int.reduceToNat, Int.toNat_zero, Int.toNat_one, not_true_eq_false, false_or, or_self, Nat.reduceGT, Option.isSome_some, Bool.and_self, Nat.zero_add, Nat.mul_one, List.length_map, List.take_length, Int.cast_ofNat_Int, Int.reduceLE, Int.reduceLT, Int.reduceGE, Int.reduceGT, Int.reduceEq, Int.reduceNe, Int.le_refl, Nat.le_refl, Nat.reduceAdd, ne_eq, not_false_eq_true, reduceCtorEq, beq_true, beq_false, BEq.rfl, Bool.not_true, Bool.not_false, decide_true, decide_false, exists_prop, h1, h2, hblk, HeapV, intsAV, wordsAV]
    · have h0 : 0 ≤ a := by simpa using h1
      have h3 : a.toNat < g.s.length := by simp at h2; omega
      obtain ⟨k, hk⟩ := some_at' g.s a.toNat h3
      simp only [go_sem, Int.natCast_nonneg, Nat.reduceEqDiff, Nat.reduceAdd, Nat.reduceSub, Nat.reduceLT, Nat.reduceMul, Nat.reduceBEq, Nat.reduceLeDiff, ↓reduceIte, Int.toNat_natCast, Int.reduceToNat, Int.toNat_zero, Int.toNat_one, not_true_eq_false, false_or, or_self, Nat.reduceGT, Option.isSome_some, Bool.and_self, Nat.zero_add, Nat.mul_one, List.length_map, List.take_length, Int.cast_ofNat_Int, Int.reduceLE, Int.reduceLT, Int.reduceGE, Int.reduceGT, Int.reduceEq, Int.reduceNe, Int.le_refl, Nat.le_refl, Nat.reduceAdd, ne_eq, not_false_eq_true, reduceCtorEq, beq_true, beq_false, BEq.rfl, Bool.not_true, Bool.not_false, decide_true, decide_false, exists_prop, map_at' iv _ _ _ hk, iv]
      refine ⟨h0, ?_⟩
      exact ret_same ⟨by simp only [hasL, h1, h2, hk, Option.getD_some, Bool.true_and], rfl⟩
    · exact ret_same ⟨by simp only [hasL, h1, h2, Bool.and_false, Bool.false_and], rfl⟩
  · exact ret_same ⟨by simp only [hasL, h1, Bool.false_and], rfl⟩

theorem tag_calls' (hblk : hp.blk hb = some (105, HeapV size hc hs ho g)) (a : Int) (w : WordG) (h0 : 0 ≤ a) (hw : g.c[a.toNat]? = some w) : ACalls Try.prog 65 [sptrAV hb, iv a] hp (fun r hp' => r = iv w.n ∧ hp' = hp) := by
  refine acalls_of Try.func65 rfl (by decide +kernel) (awp_sound (mu := []) _ _ _ ?_)
  simp only [go_sem, Int.natCast_nonneg, Nat.reduceEqDiff, Nat.reduceAdd, Nat.reduceSub, Nat.reduceLT, Nat.reduceMul, Nat.reduceBEq, Nat.reduceLeDiff, ↓reduceIte, Int.toNat_natCast, Int.reduceToNat, Int.toNat_zero, Int.toNat_one, not_true_eq_false, false_or, or_self, Nat.reduceGT, Option.isSome_some, Bool.and_self, Nat.zero_add, Nat.mul_one, List.length_map, List.take_length, Int.cast_ofNat_Int, Int.reduceLE, Int.reduceLT, Int.reduceGE, Int.reduceGT, Int.reduceEq, Int.reduceNe, Int.le_refl, Nat.le_refl, Nat.reduceAdd, ne_eq, not_false_eq_true, reduceCtorEq, beq_true, beq_false, BEq.rfl, Bool.not_true, Bool.not_false, decide_true, decide_false, exists_prop, hblk, HeapV, sptrAV, iv, intsAV, wordsAV, map_at' WordG.av _ _ _ hw, WordG.av, WordG.cs]
  refine ⟨h0, ?_⟩
  exact ret_same ⟨rfl, rfl⟩

theorem fields_calls' (hblk : hp.blk hb = some (105, HeapV size hc hs ho g)) (a k : Int) (h0 : 0 ≤ a) (hk : g.s[a.toNat]? = some k) (h1 : 1 ≤ k) (h2 : a + k ≤ g.c.length) (hl : g.c.length ≤ maxLen) :
    ACalls Try.prog 66 [sptrAV hb, iv a] hp (fun r hp' => (∃ h, r = wordsAV h ((g.c.take (a + k).toNat).drop (a + 1).toNat)) ∧ hp' = hp) := by
  have w1 : IntKind.i64.wrap (a + k) = a + k := by simp only [maxLen] at hl; exact IntWalk.i64_in _ (by omega)
  have w2 : IntKind.i64.wrap (a + 1) = a + 1 := by simp only [maxLen] at hl; exact IntWalk.i64_in _ (by omega)
  refine acalls_of Try.func66 rfl (by decide +kernel) (awp_sound (mu := []) _ _ _ ?_)
  simp only [go_sem, Int.natCast_nonneg, Nat.reduceEqDiff, Nat.reduceAdd, Nat.reduceSub, Nat.reduceLT, Nat.reduceMul, Nat.reduceBEq, Nat.reduceLeDiff, ↓reduceIte, Int.toNat_natCast, Int.reduceToNat, Int.toNat_zero, Int.toNat_one, not_true_eq_false, false_or, or_self, Nat.reduceGT, Option.isSome_some, Bool.and_self, Nat.zero_add, Nat.mul_one, List.length_map, List.take_length, Int.cast_ofNat_Int, Int.reduceLE, Int.reduceLT, Int.reduceGE, Int.reduceGT, Int.reduceEq, Int.reduceNe, Int.le_refl, Nat.le_refl, Nat.reduceAdd, ne_eq, not_false_eq_true, reduceCtorEq, beq_true, beq_false, BEq.rfl, Bool.not_true, Bool.not_false, decide_true, decide_false, exists_prop, hblk, HeapV, sptrAV, iv, intsAV, wordsAV, map_at' (fun n => AV.v (.int .i64 n)) _ _ _ hk, show (g.s.map iv) = g.s.map (fun n => AV.v (.int .i64 n)) from rfl, w1, w2]
  refine ⟨h0, by omega, by omega, by omega, by omega, fun a' => ?_⟩
  exact ret_same ⟨⟨_, by rw [List.map_drop, List.map_take]⟩, rfl⟩

def closV (p : Value) (hb : Nat) : AV := .fn (.func 88) [] [.ref p [sptrAV hb]]

theorem bad_calls (hblk : hp.blk hb = some (105, HeapV size hc hs ho g)) (p : Value) (w : WordG) : ACalls Try.prog 88 [w.av, .ref p [sptrAV hb]] hp (fun r hp' => r = .v (.bool (badW g.s w)) ∧ hp' = hp) := by
  refine acalls_of Try.func88 rfl (by decide +kernel) (awp_sound (mu := []) _ _ _ ?_)
  simp only [go_sem, Int.natCast_nonneg, Nat.reduceEqDiff, Nat.reduceAdd, Nat.reduceSub, Nat.reduceLT, Nat.reduceMul, Nat.reduceBEq, Nat.reduceLeDiff, ↓reduceIte, Int.toNat_natCast, Int.reduceToNat, Int.toNat_zero, Int.toNat_one, not_true_eq_false, false_or, or_self, Nat.reduceGT, Option.isSome_some, Bool.and_self, Nat.zero_add, Nat.mul_one, List.length_map, List.take_length, Int.cast_ofNat_Int, Int.reduceLE, Int.reduceLT, Int.reduceGE, Int.reduceGT, Int.reduceEq, Int.reduceNe, Int.le_refl, Nat.le_refl, Nat.reduceAdd, ne_eq, not_false_eq_true, reduceCtorEq, beq_true, beq_false, BEq.rfl, Bool.not_true, Bool.not_false, decide_true, decide_false, exists_prop, WordG.av, WordG.cs]
  intro q
  refine brK_mk (fun h1 => ?_) (fun h1 => ?_) <;> simp only [go_sem, Int.natCast_nonneg, Nat.reduceEqDiff, Nat.reduceAdd, Nat.reduceSub, Nat.reduceLT, Nat.reduceMul, Nat.reduceBEq, Nat.reduceLeDiff, ↓reduceIte, Int.toNat_natCast, Int.reduceToNat, Int.toNat_zero, Int.toNat_one, not_true_eq_false, false_or, or_self, Nat.reduceGT, Option.isSome_some, Bool.and_self, Nat.zero_add, Nat.mul_one, List.length_map, List.take_length, Int.cast_ofNat_Int, Int.reduceLE, Int.reduceLT, Int.reduceGE, Int.reduceGT, Int.reduceEq, Int.reduceNe, Int.le_refl, Nat.le_refl, Nat.reduceAdd, ne_eq, not_false_eq_true, reduceCtorEq, beq_true, beq_false, BEq.rfl, Bool.not_true, Bool.not_false, decide_true, decide_false, exists_prop, h1]
  · refine callX_by (has_calls' hblk w.n) ?_
    rintro r hp' ⟨rfl, rfl⟩
    simp only [go_sem, Int.natCast_nonneg, Nat.reduceEqDiff, Nat.reduceAdd, Nat.reduceSub, Nat.reduceLT, Nat.reduceMul, Nat.reduceBEq, Nat.reduceLeDiff, ↓reduceIte, Int.toNat_natCast, Int.reduceToNat, Int.toNat_zero, Int.toNat_one, not_true_eq_false, false_or, or_self, Nat.reduceGT, Option.isSome_some, Bool.and_self, Nat.zero_add, Nat.mul_one, List.length_map, List.take_length, Int.cast_ofNat_Int, Int.reduceLE, Int.reduceLT, Int.reduceGE, Int.reduceGT, Int.reduceEq, Int.reduceNe, Int.le_refl, Nat.le_refl, Nat.reduceAdd, ne_eq, not_false_eq_true, reduceCtorEq, beq_true, beq_false, BEq.rfl, Bool.not_true, Bool.not_false, decide_true, decide_false, exists_prop]
    exact ret_same ⟨by simp only [badW, h1, Bool.true_and], rfl⟩
  · exact ret_same ⟨by simp only [badW, h1, Bool.false_and], rfl⟩

theorem indexFunc_calls (hblk : hp.blk hb = some (105, HeapV size hc hs ho g)) (h p : Value) (l : List WordG) (hl : l.length ≤ maxLen) : ACalls Try.prog 103 [wordsAV h l, closV p hb] hp (fun r hp' => r = iv (idxBad g.s l 0) ∧ hp' = hp) := by
  refine acalls_of Try.func103 rfl (by decide +kernel) (awp_sound (mu := []) _ _ _ ?_)
  simp only [go_sem, Int.natCast_nonneg, Nat.reduceEqDiff, Nat.reduceAdd, Nat.reduceSub, Nat.reduceLT, Nat.reduceMul, Nat.reduceBEq, Nat.reduceLeDiff, ↓reduceIte, Int.toNat_natCast, Int.reduceToNat, Int.toNat_zero, Int.toNat_one, not_true_eq_false, false_or, or_self, Nat.reduceGT, Option.isSome_some, Bool.and_self, Nat.zero_add, Nat.mul_one, List.length_map, List.take_length, Int.cast_ofNat_Int, Int.reduceLE, Int.reduceLT, Int.reduceGE, Int.reduceGT, Int.reduceEq, Int.reduceNe, Int.le_refl, Nat.le_refl, Nat.reduceAdd, ne_eq, not_false_eq_true, reduceCtorEq, beq_true, beq_false, BEq.rfl, Bool.not_true, Bool.not_false, decide_true, decide_false, exists_prop, wordsAV]
  refine aw_loopX 19 (fun k : Nat => [(0, .lst 2 h (l.map WordG.av)), (1, closV p hb), (7, .v (.int .i64 l.length)), (8, .v (.int .i64 k))])
    (fun _ => hp) (fun k => k ≤ l.length ∧ idxBad g.s (l.drop k) k = idxBad g.s l 0) (fun k => l.length - k) 0 ⟨Nat.zero_le _, rfl⟩ (le_mkSl rfl (Hp.le_refl _) (by simp [go_sem])) ?_
  rintro k ⟨hk, hi⟩
  refine awp_sound (mu := []) _ _ _ ?_
  simp only [go_sem, Int.natCast_nonneg, Nat.reduceEqDiff, Nat.reduceAdd, Nat.reduceSub, Nat.reduceLT, Nat.reduceMul, Nat.reduceBEq, Nat.reduceLeDiff, ↓reduceIte, Int.toNat_natCast, Int.reduceToNat, Int.toNat_zero, Int.toNat_one, not_true_eq_false, false_or, or_self, Nat.reduceGT, Option.isSome_some, Bool.and_self, Nat.zero_add, Nat.mul_one, List.length_map, List.take_length, Int.cast_ofNat_Int, Int.reduceLE, Int.reduceLT, Int.reduceGE, Int.reduceGT, Int.reduceEq, Int.reduceNe, Int.le_refl, Nat.le_refl, Nat.reduceAdd, ne_eq, not_false_eq_true, reduceCtorEq, beq_true, beq_false, BEq.rfl, Bool.not_true, Bool.not_false, decide_true, decide_false, exists_prop]
  refine brK_mk (fun h1 => ?_) (fun h1 => ?_) <;> simp only [go_sem, Int.natCast_nonneg, Nat.reduceEqDiff, Nat.reduceAdd, Nat.reduceSub, Nat.reduceLT, Nat.reduceMul, Nat.reduceBEq, Nat.reduceLeDiff, ↓reduceIte, Int.toNat_natCast, Int.reduceToNat, Int.toNat_zero, Int.toNat_one, not_true_eq_false, false_or, or_self, Nat.reduceGT, Option.isSome_some, Bool.and_self, Nat.zero_add, Nat.mul_one, List.length_map, List.take_length, Int.cast_ofNat_Int, Int.reduceLE, Int.reduceLT, Int.reduceGE, Int.reduceGT, Int.reduceEq, Int.reduceNe, Int.le_refl, Nat.le_refl, Nat.reduceAdd, ne_eq, not_false_eq_true, reduceCtorEq, beq_true, beq_false, BEq.rfl, Bool.not_true, Bool.not_false, decide_true, decide_false, exists_prop, h1]
  · have hk' : k < l.length := by simpa using h1
    obtain ⟨w, hw⟩ := some_at' l k hk'
    have hd : l.drop k = w :: l.drop (k + 1) := by
      obtain ⟨hlt, rfl⟩ := List.getElem?_eq_some_iff.1 hw
      exact List.drop_eq_getElem_cons hlt
    rw [hd, idxBad] at hi
    simp only [go_sem, Int.natCast_nonneg, Nat.reduceEqDiff, Nat.reduceAdd, Nat.reduceSub, Nat.reduceLT, Nat.reduceMul, Nat.reduceBEq, Nat.reduceLeDiff, ↓reduceIte, Int.toNat_natCast, Int.reduceToNat, Int.toNat_zero, Int.toNat_one, not_true_eq_false, false_or, or_self, Nat.reduceGT, Option.isSome_some, Bool.and_self, Nat.zero_add, Nat.mul_one, List.length_map, List.take_length, Int.cast_ofNat_Int, Int.reduceLE, Int.reduceLT, Int.reduceGE, Int.reduceGT, Int.reduceEq, Int.reduceNe, Int.le_refl, Nat.le_refl, Nat.reduceAdd, ne_eq, not_false_eq_true, reduceCtorEq, beq_true, beq_false, BEq.rfl, Bool.not_true, Bool.not_false, decide_true, decide_false, exists_prop, h1, map_at' WordG.av _ _ _ hw, WordG.av, WordG.cs, closV]
    refine callX_by (bad_calls hblk p w) ?_
    rintro r hp' ⟨rfl, rfl⟩
    simp only [go_sem, Int.natCast_nonneg, Nat.reduceEqDiff, Nat.reduceAdd, Nat.reduceSub, Nat.reduceLT, Nat.reduceMul, Nat.reduceBEq, Nat.reduceLeDiff, ↓reduceIte, Int.toNat_natCast, Int.reduceToNat, Int.toNat_zero, Int.toNat_one, not_true_eq_false, false_or, or_self, Nat.reduceGT, Option.isSome_some, Bool.and_self, Nat.zero_add, Nat.mul_one, List.length_map, List.take_length, Int.cast_ofNat_Int, Int.reduceLE, Int.reduceLT, Int.reduceGE, Int.reduceGT, Int.reduceEq, Int.reduceNe, Int.le_refl, Nat.le_refl, Nat.reduceAdd, ne_eq, not_false_eq_true, reduceCtorEq, beq_true, beq_false, BEq.rfl, Bool.not_true, Bool.not_false, decide_true, decide_false, exists_prop]
    refine brK_mk (fun h2 => ?_) (fun h2 => ?_) <;> simp only [go_sem, Int.natCast_nonneg, Nat.reduceEqDiff, Nat.reduceAdd, Nat.reduceSub, Nat.reduceLT, Nat.reduceMul, Nat.reduceBEq, Nat.reduceLeDiff, ↓reduceIte, Int.toNat_natCast, Int.reduceToNat, Int.toNat_zero, Int.toNat_one, not_true_eq_false, false_or, or_self, Nat.reduceGT, Option.isSome_some, Bool.and_self, Nat.zero_add, Nat.mul_one, List.length_map, List.take_length, Int.cast_ofNat_Int, Int.reduceLE, Int.reduceLT, Int.reduceGE, Int.reduceGT, Int.reduceEq, Int.reduceNe, Int.le_refl, Nat.le_refl, Nat.reduceAdd, ne_eq, not_false_eq_true, reduceCtorEq, beq_true, beq_false, BEq.rfl, Bool.not_true, Bool.not_false, decide_true, decide_false, exists_prop, h2]
    · rw [h2, if_pos rfl] at hi
      exact ret_same ⟨by rw [← hi]; rfl, rfl⟩
    · rw [h2, if_neg (by simp)] at hi
      refine ⟨k + 1, by omega, ⟨by omega, hi⟩, le_mkSl rfl (Hp.le_refl _) ?_⟩
      have hwu : IntKind.i64.wrap ((k : Int) + 1) = ((k + 1 : Nat) : Int) := by simp only [maxLen] at hl; exact IntWalk.i64_in _ (by omega)
      simp [go_sem, hwu]
  · have e : l.length ≤ k := by simp at h1; omega
    rw [List.drop_of_length_le e] at hi
    exact ret_same ⟨by rw [← hi]; rfl, rfl⟩

theorem containsFunc_calls (hblk : hp.blk hb = some (105, HeapV size hc hs ho g)) (h p : Value) (l : List WordG) (hl : l.length ≤ maxLen) : ACalls Try.prog 87 [wordsAV h l, closV p hb] hp (fun r hp' => r = .v (.bool (!validL g.s l)) ∧ hp' = hp) := by
  refine acalls_of Try.func87 rfl (by decide +kernel) (awp_sound (mu := []) _ _ _ ?_)
  simp only [go_sem, Int.natCast_nonneg, Nat.reduceEqDiff, Nat.reduceAdd, Nat.reduceSub, Nat.reduceLT, Nat.reduceMul, Nat.reduceBEq, Nat.reduceLeDiff, ↓reduceIte, Int.toNat_natCast, Int.reduceToNat, Int.toNat_zero, Int.toNat_one, not_true_eq_false, false_or, or_self, Nat.reduceGT, Option.isSome_some, Bool.and_self, Nat.zero_add, Nat.mul_one, List.length_map, List.take_length, Int.cast_ofNat_Int, Int.reduceLE, Int.reduceLT, Int.reduceGE, Int.reduceGT, Int.reduceEq, Int.reduceNe, Int.le_refl, Nat.le_refl, Nat.reduceAdd, ne_eq, not_false_eq_true, reduceCtorEq, beq_true, beq_false, BEq.rfl, Bool.not_true, Bool.not_false, decide_true, decide_false, exists_prop]
  refine callX_by (indexFunc_calls hblk h p l hl) ?_
  rintro r hp' ⟨rfl, rfl⟩
  simp only [go_sem, Int.natCast_nonneg, Nat.reduceEqDiff, Nat.reduceAdd, Nat.reduceSub, Nat.reduceLT, Nat.reduceMul, Nat.reduceBEq, Nat.reduceLeDiff, ↓reduceIte, Int.toNat_natCast, Int.reduceToNat, Int.toNat_zero, Int.toNat_one, not_true_eq_false, false_or, or_self, Nat.reduceGT, Option.isSome_some, Bool.and_self, Nat.zero_add, Nat.mul_one, List.length_map, List.take_length, Int.cast_ofNat_Int, Int.reduceLE, Int.reduceLT, Int.reduceGE, Int.reduceGT, Int.reduceEq, Int.reduceNe, Int.le_refl, Nat.le_refl, Nat.reduceAdd, ne_eq, not_false_eq_true, reduceCtorEq, beq_true, beq_false, BEq.rfl, Bool.not_true, Bool.not_false, decide_true, decide_false, exists_prop, iv]
  exact ret_same ⟨by rw [idxBad_ge], rfl⟩

theorem valid_calls (hblk : hp.blk hb = some (105, HeapV size hc hs ho g)) (h : Value) (l : List WordG) : ACalls Try.prog 63 [sptrAV hb, wordsAV h l] hp (fun r hp' => r = .v (.bool (validL g.s l)) ∧ hp' = hp) := by
  refine acalls_fit (callable_of Try.func63 (by decide +kernel)) fun hfit => ?_
  have hl : l.length ≤ maxLen := by have := hfit.2.1; simp only [wordsAV, AV.fit, List.length_map] at this; exact this.1
  refine acalls_of Try.func63 rfl (by decide +kernel) (awp_sound (mu := []) _ _ _ ?_)
  simp only [go_sem, Int.natCast_nonneg, Nat.reduceEqDiff, Nat.reduceAdd, Nat.reduceSub, Nat.reduceLT, Nat.reduceMul, Nat.reduceBEq, Nat.reduceLeDiff, ↓reduceIte, Int.toNat_natCast, Int.reduceToNat, Int.toNat_zero, Int.toNat_one, not_true_eq_false, false_or, or_self, Nat.reduceGT, Option.isSome_some, Bool.and_self, Nat.zero_add, Nat.mul_one, List.length_map, List.take_length, Int.cast_ofNat_Int, Int.reduceLE, Int.reduceLT, Int.reduceGE, Int.reduceGT, Int.reduceEq, Int.reduceNe, Int.le_refl, Nat.le_refl, Nat.reduceAdd, ne_eq, not_false_eq_true, reduceCtorEq, beq_true, beq_false, BEq.rfl, Bool.not_true, Bool.not_false, decide_true, decide_false, exists_prop]
  intro p
  refine callX_by (containsFunc_calls hblk h p l hl) ?_
  rintro r hp' ⟨rfl, rfl⟩
  simp only [go_sem, Int.natCast_nonneg, Nat.reduceEqDiff, Nat.reduceAdd, Nat.reduceSub, Nat.reduceLT, Nat.reduceMul, Nat.reduceBEq, Nat.reduceLeDiff, ↓reduceIte, Int.toNat_natCast, Int.reduceToNat, Int.toNat_zero, Int.toNat_one, not_true_eq_false, false_or, or_self, Nat.reduceGT, Option.isSome_some, Bool.and_self, Nat.zero_add, Nat.mul_one, List.length_map, List.take_length, Int.cast_ofNat_Int, Int.reduceLE, Int.reduceLT, Int.reduceGE, Int.reduceGT, Int.reduceEq, Int.reduceNe, Int.le_refl, Nat.le_refl, Nat.reduceAdd, ne_eq, not_false_eq_true, reduceCtorEq, beq_true, beq_false, BEq.rfl, Bool.not_true, Bool.not_false, decide_true, decide_false, exists_prop]
  exact ret_same ⟨by simp, rfl⟩

theorem at_calls (hblk : hp.blk hb = some (105, HeapV size hc hs ho g)) (a : Int) : ACalls Try.prog 72 [hptrAV hb, iv a] hp (fun r hp' => r = iv (if hasL g.s a = true then 0 else 171) ∧ hp' = hp) := by
  refine acalls_of Try.func72 rfl (by decide +kernel) (awp_sound (mu := []) _ _ _ ?_)
  simp only [go_sem, Int.natCast_nonneg, Nat.reduceEqDiff, Nat.reduceAdd, Nat.reduceSub, Nat.reduceLT, Nat.reduceMul, Nat.reduceBEq, Nat.reduceLeDiff, ↓reduceIte, Int.toNat_natCast, Int.reduceToNat, Int.toNat_zero, Int.toNat_one, not_true_eq_false, false_or, or_self, Nat.reduceGT, Option.isSome_some, Bool.and_self, Nat.zero_add, Nat.mul_one, List.length_map, List.take_length, Int.cast_ofNat_Int, Int.reduceLE, Int.reduceLT, Int.reduceGE, Int.reduceGT, Int.reduceEq, Int.reduceNe, Int.le_refl, Nat.le_refl, Nat.reduceAdd, ne_eq, not_false_eq_true, reduceCtorEq, beq_true, beq_false, BEq.rfl, Bool.not_true, Bool.not_false, decide_true, decide_false, exists_prop, hptrAV]
  refine callX_by (has_calls' hblk a) ?_
  rintro r hp' ⟨rfl, rfl⟩
  simp only [go_sem, Int.natCast_nonneg, Nat.reduceEqDiff, Nat.reduceAdd, Nat.reduceSub, Nat.reduceLT, Nat.reduceMul, Nat.reduceBEq, Nat.reduceLeDiff, ↓reduceIte, Int.toNat_natCast, Int.reduceToNat, Int.toNat_zero, Int.toNat_one, not_true_eq_false, false_or, or_self, Nat.reduceGT, Option.isSome_some, Bool.and_self, Nat.zero_add, Nat.mul_one, List.length_map, List.take_length, Int.cast_ofNat_Int, Int.reduceLE, Int.reduceLT, Int.reduceGE, Int.reduceGT, Int.reduceEq, Int.reduceNe, Int.le_refl, Nat.le_refl, Nat.reduceAdd, ne_eq, not_false_eq_true, reduceCtorEq, beq_true, beq_false, BEq.rfl, Bool.not_true, Bool.not_false, decide_true, decide_false, exists_prop]
  refine brK_mk (fun h1 => ?_) (fun h1 => ?_) <;> simp only [go_sem, Int.natCast_nonneg, Nat.reduceEqDiff, Nat.reduceAdd, Nat.reduceSub, Nat.reduceLT, Nat.reduceMul, Nat.reduceBEq, Nat.reduceLeDiff, ↓reduceIte, Int.toNat_natCast, Int.reduceToNat, Int.toNat_zero, Int.toNat_one, not_true_eq_false, false_or, or_self, Nat.reduceGT, Option.isSome_some, Bool.and_self, Nat.zero_add, Nat.mul_one, List.length_map, List.take_length, Int.cast_ofNat_Int, Int.reduceLE, Int.reduceLT, Int.reduceGE, Int.reduceGT, Int.reduceEq, Int.reduceNe, Int.le_refl, Nat.le_refl, Nat.reduceAdd, ne_eq, not_false_eq_true, reduceCtorEq, beq_true, beq_false, BEq.rfl, Bool.not_true, Bool.not_false, decide_true, decide_false, exists_prop, h1]
  · exact ret_same ⟨by simp [h1, iv], rfl⟩
  · exact ret_same ⟨by simp [h1, iv], rfl⟩

theorem tagH_calls (hblk : hp.blk hb = some (105, HeapV size hc hs ho g)) (a : Int) (w : WordG) (hw : hasL g.s a = true → g.c[a.toNat]? = some w) : ACalls Try.prog 33 [hptrAV hb, iv a] hp (fun r hp' => r = .tup (if hasL g.s a = true then [iv w.n, iv 0] else [iv 0, iv 171]) ∧ hp' = hp) := by
  refine acalls_of Try.func33 rfl (by decide +kernel) (awp_sound (mu := []) _ _ _ ?_)
  simp only [go_sem, Int.natCast_nonneg, Nat.reduceEqDiff, Nat.reduceAdd, Nat.reduceSub, Nat.reduceLT, Nat.reduceMul, Nat.reduceBEq, Nat.reduceLeDiff, ↓reduceIte, Int.toNat_natCast, Int.reduceToNat, Int.toNat_zero, Int.toNat_one, not_true_eq_false, false_or, or_self, Nat.reduceGT, Option.isSome_some, Bool.and_self, Nat.zero_add, Nat.mul_one, List.length_map, List.take_length, Int.cast_ofNat_Int, Int.reduceLE, Int.reduceLT, Int.reduceGE, Int.reduceGT, Int.reduceEq, Int.reduceNe, Int.le_refl, Nat.le_refl, Nat.reduceAdd, ne_eq, not_false_eq_true, reduceCtorEq, beq_true, beq_false, BEq.rfl, Bool.not_true, Bool.not_false, decide_true, decide_false, exists_prop, hptrAV]
  refine callX_by (at_calls hblk a) ?_
  rintro r hp' ⟨rfl, rfl⟩
  cases h1 : hasL g.s a with
  | true =>
    simp only [go_sem, Int.natCast_nonneg, Nat.reduceEqDiff, Nat.reduceAdd, Nat.reduceSub, Nat.reduceLT, Nat.reduceMul, Nat.reduceBEq, Nat.reduceLeDiff, ↓reduceIte, Int.toNat_natCast, Int.reduceToNat, Int.toNat_zero, Int.toNat_one, not_true_eq_false, false_or, or_self, Nat.reduceGT, Option.isSome_some, Bool.and_self, Nat.zero_add, Nat.mul_one, List.length_map, List.take_length, Int.cast_ofNat_Int, Int.reduceLE, Int.reduceLT, Int.reduceGE, Int.reduceGT, Int.reduceEq, Int.reduceNe, Int.le_refl, Nat.le_refl, Nat.reduceAdd, ne_eq, not_false_eq_true, reduceCtorEq, beq_true, beq_false, BEq.rfl, Bool.not_true, Bool.not_false, decide_true, decide_false, exists_prop, h1, iv]
    have h0 : 0 ≤ a := by simp only [hasL, Bool.and_eq_true, decide_eq_true_eq] at h1; exact h1.1.1
    refine callX_by (tag_calls' hblk a w h0 (hw h1)) ?_
    rintro r hp' ⟨rfl, rfl⟩
    simp only [go_sem, Int.natCast_nonneg, Nat.reduceEqDiff, Nat.reduceAdd, Nat.reduceSub, Nat.reduceLT, Nat.reduceMul, Nat.reduceBEq, Nat.reduceLeDiff, ↓reduceIte, Int.toNat_natCast, Int.reduceToNat, Int.toNat_zero, Int.toNat_one, not_true_eq_false, false_or, or_self, Nat.reduceGT, Option.isSome_some, Bool.and_self, Nat.zero_add, Nat.mul_one, List.length_map, List.take_length, Int.cast_ofNat_Int, Int.reduceLE, Int.reduceLT, Int.reduceGE, Int.reduceGT, Int.reduceEq, Int.reduceNe, Int.le_refl, Nat.le_refl, Nat.reduceAdd, ne_eq, not_false_eq_true, reduceCtorEq, beq_true, beq_false, BEq.rfl, Bool.not_true, Bool.not_false, decide_true, decide_false, exists_prop]
    exact ret_same ⟨by simp [iv], rfl⟩
  | false =>
    simp only [go_sem, Int.natCast_nonneg, Nat.reduceEqDiff, Nat.reduceAdd, Nat.reduceSub, Nat.reduceLT, Nat.reduceMul, Nat.reduceBEq, Nat.reduceLeDiff, ↓reduceIte, Int.toNat_natCast, Int.reduceToNat, Int.toNat_zero, Int.toNat_one, not_true_eq_false, false_or, or_self, Nat.reduceGT, Option.isSome_some, Bool.and_self, Nat.zero_add, Nat.mul_one, List.length_map, List.take_length, Int.cast_ofNat_Int, Int.reduceLE, Int.reduceLT, Int.reduceGE, Int.reduceGT, Int.reduceEq, Int.reduceNe, Int.le_refl, Nat.le_refl, Nat.reduceAdd, ne_eq, not_false_eq_true, reduceCtorEq, beq_true, beq_false, BEq.rfl, Bool.not_true, Bool.not_false, decide_true, decide_false, exists_prop, h1, iv]
    exact ret_same ⟨by simp [iv], rfl⟩
theorem usedH_calls (hblk : hp.blk hb = some (105, HeapV size hc hs ho g)) : ACalls Try.prog 18 [hptrAV hb] hp (fun r hp' => r = iv g.c.length ∧ hp' = hp) := by
  refine acalls_of Try.func18 rfl (by decide +kernel) (awp_sound (mu := []) _ _ _ ?_)
  simp only [go_sem, Int.natCast_nonneg, Nat.reduceEqDiff, Nat.reduceAdd, Nat.reduceSub, Nat.reduceLT, Nat.reduceMul, Nat.reduceBEq, Nat.reduceLeDiff, ↓reduceIte, Int.toNat_natCast, Int.reduceToNat, Int.toNat_zero, Int.toNat_one, not_true_eq_false, false_or, or_self, Nat.reduceGT, Option.isSome_some, Bool.and_self, Nat.zero_add, Nat.mul_one, List.length_map, List.take_length, Int.cast_ofNat_Int, Int.reduceLE, Int.reduceLT, Int.reduceGE, Int.reduceGT, Int.reduceEq, Int.reduceNe, Int.le_refl, Nat.le_refl, Nat.reduceAdd, ne_eq, not_false_eq_true, reduceCtorEq, beq_true, beq_false, BEq.rfl, Bool.not_true, Bool.not_false, decide_true, decide_false, exists_prop, hptrAV, hblk, HeapV, wordsAV, intsAV]
  exact ret_same ⟨rfl, rfl⟩
end
end Go.Proofs.Ytfdlfcafcjhpmaa
/- A heap: placing an object; copies. -/
set_option linter.unusedSimpArgs false
set_option linter.unusedVariables false
set_option maxRecDepth 20000
set_option maxHeartbeats 4000000
namespace Go.Proofs.Ytfdlfcafcjhpmaa
open Go.AL

def putG (g : SpG) (tag : Int) (fs : List WordG) : SpG := ⟨g.c ++ ⟨false, tag⟩ :: fs, g.s ++ ((fs.length : Int) + 1) :: List.replicate fs.length 0, g.o ++ [(g.c.length : Int)]⟩
structure SpFit (g : SpG) (n : Nat) : Prop where
  c : g.c.length + 1 + n ≤ 4194304
  s : g.s.length + 1 + n ≤ 4194304
  o : g.o.length + 1 ≤ 4194304
theorem ones_int (l : List Int) : ((l.map iv).flatMap AV.cells).all AV.one = true := by
  induction l with
  | nil => rfl
  | cons a l ih => rw [List.map_cons, List.flatMap_cons, List.all_append, ih]; rfl
theorem ones_word (l : List WordG) : ((l.map WordG.av).flatMap AV.cells).all AV.one = true := by
  induction l with
  | nil => rfl
  | cons a l ih => rw [List.map_cons, List.flatMap_cons, List.all_append, ih]; rfl
abbrev spE (hc hs ho : Value) (l : List (TypeId × Nat × Value)) : List (TypeId × Nat × Value) := (65, 2, hc) :: (3, 1, hs) :: (3, 1, ho) :: l

theorem le_blk {hp X : Hp} {b : Nat} {T : TypeId} {cs : List AV} {l : List (TypeId × Nat × Value)} (h1 : X.blk = (hp.setBlk b T cs).blk) (h2 : X.mp = hp.mp) (h3 : l.Sublist X.sp) (h4 : X.gl = hp.gl) : ((hp.setBlk b T cs).setSp l).le X :=
  ⟨fun i x h => by rw [h1]; exact h, fun i x h => by rw [h2]; exact h, h3, fun x h => by rw [h4]; exact h⟩

theorem put_calls {hb : Nat} {size : Int} {hc hs ho : Value} {g : SpG} {hp : Hp} {l2 : List (TypeId × Nat × Value)} (hblk : hp.blk hb = some (105, HeapV size hc hs ho g)) (hsp : hp.sp = spE hc hs ho l2)
    (tag : Int) (hf : Value) (fs : List WordG) (hfit : SpFit g fs.length) : ACalls Try.prog 70 [sptrAV hb, iv tag, wordsAV hf fs] hp
      (fun r hp' => r = iv g.c.length ∧ ∃ hc' hs' ho', hp' = (hp.setBlk hb 105 (HeapV size hc' hs' ho' (putG g tag fs))).setSp (spE hc' hs' ho' l2)) := by
  obtain ⟨f1, f2, f3⟩ := hfit
  refine acalls_of Try.func70 rfl (by decide +kernel) (awp_sound (mu := [22, 35, 47, 60]) _ _ _ ?_)
  simp only [go_sem, Int.natCast_nonneg, Nat.reduceEqDiff, Nat.reduceAdd, Nat.reduceSub, Nat.reduceLT, Nat.reduceMul, Nat.reduceBEq, Nat.reduceLeDiff, ↓reduceIte, Int.toNat_natCast, Int.reduceToNat, Int.toNat_zero, Int.toNat_one, not_true_eq_false, false_or, or_self, Nat.reduceGT, Option.isSome_some, Bool.and_self, Nat.zero_add, Nat.mul_one, List.length_map, List.take_length, Int.cast_ofNat_Int, Int.reduceLE, Int.reduceLT, Int.reduceGE, Int.reduceGT, Int.reduceEq, Int.reduceNe, Int.le_refl, Nat.le_refl, Nat.reduceAdd, ne_eq, not_false_eq_true, reduceCtorEq, beq_true, beq_false, BEq.rfl, Bool.not_true, Bool.not_false, decide_true, decide_false, exists_prop, hblk, HeapV, sptrAV, wordsAV, intsAV, iv]
  refine ⟨rfl, by simp, fun hd1 => ?_⟩
  refine append_by (a := intsAV ho g.o) (b := .lst 1 hd1 [iv g.c.length]) (l1 := [(3, 1, hd1), (65, 2, hc), (3, 1, hs)]) (l2 := l2) (h := ho) (h2 := hd1) Try.k41 Try.s3 Try.y3 Try.z3 rfl (by decide)
    (by simp [go_sem, intsAV]) (Cast.refl _) (by simp [go_sem, iv]) (Cast.refl _) (by simp [go_sem, hsp]) (by simp [go_sem, iv]) (by simp [maxLen]; omega) (by simp; omega) (by simp [go_sem]) (fun ho' => ?_)
  simp only [go_sem, Int.natCast_nonneg, Nat.reduceEqDiff, Nat.reduceAdd, Nat.reduceSub, Nat.reduceLT, Nat.reduceMul, Nat.reduceBEq, Nat.reduceLeDiff, ↓reduceIte, Int.toNat_natCast, Int.reduceToNat, Int.toNat_zero, Int.toNat_one, not_true_eq_false, false_or, or_self, Nat.reduceGT, Option.isSome_some, Bool.and_self, Nat.zero_add, Nat.mul_one, List.length_map, List.take_length, Int.cast_ofNat_Int, Int.reduceLE, Int.reduceLT, Int.reduceGE, Int.reduceGT, Int.reduceEq, Int.reduceNe, Int.le_refl, Nat.le_refl, Nat.reduceAdd, ne_eq, not_false_eq_true, reduceCtorEq, beq_true, beq_false, BEq.rfl, Bool.not_true, Bool.not_false, decide_true, decide_false, exists_prop, hblk, HeapV, wordsAV, intsAV, iv]
  refine ⟨rfl, by simp, fun hd2 => ?_⟩
  refine append_by (a := wordsAV hc g.c) (b := .lst 2 hd2 [WordG.av ⟨false, tag⟩]) (l1 := [(65, 2, hd2), (3, 1, hd1)]) (l2 := (3, 1, hs) :: (3, 1, ho') :: l2) (h := hc) (h2 := hd2) Try.k32 Try.s65 Try.y65 Try.z65 rfl (by decide)
    (by simp [go_sem, wordsAV]) (Cast.refl _) (by simp [go_sem, WordG.av, WordG.cs]) (Cast.refl _) (by simp [go_sem]) (by simp [go_sem, WordG.av, WordG.cs]) (by simp [maxLen]; omega) (by simp; omega) (by simp [go_sem]) (fun hc1 => ?_)
  simp only [go_sem, Int.natCast_nonneg, Nat.reduceEqDiff, Nat.reduceAdd, Nat.reduceSub, Nat.reduceLT, Nat.reduceMul, Nat.reduceBEq, Nat.reduceLeDiff, ↓reduceIte, Int.toNat_natCast, Int.reduceToNat, Int.toNat_zero, Int.toNat_one, not_true_eq_false, false_or, or_self, Nat.reduceGT, Option.isSome_some, Bool.and_self, Nat.zero_add, Nat.mul_one, List.length_map, List.take_length, Int.cast_ofNat_Int, Int.reduceLE, Int.reduceLT, Int.reduceGE, Int.reduceGT, Int.reduceEq, Int.reduceNe, Int.le_refl, Nat.le_refl, Nat.reduceAdd, ne_eq, not_false_eq_true, reduceCtorEq, beq_true, beq_false, BEq.rfl, Bool.not_true, Bool.not_false, decide_true, decide_false, exists_prop, hblk, HeapV, wordsAV, intsAV, iv]
  refine append_by (a := .lst 2 hc1 (g.c.map WordG.av ++ [WordG.av ⟨false, tag⟩])) (b := wordsAV hf fs) (l1 := [(65, 2, hd2), (3, 1, hd1)]) (l2 := (3, 1, hs) :: (3, 1, ho') :: l2) (h := hc1) (h2 := hf) Try.k32 Try.s65 Try.y65 Try.z65 rfl (by decide)
    (by simp [go_sem]) (Cast.refl _) (by simp [go_sem, wordsAV]) (Cast.refl _) (by simp [go_sem]) (ones_word fs) (by simp [maxLen]; omega) (by simp; omega) (by simp [go_sem]) (fun hc2 => ?_)
  simp only [go_sem, Int.natCast_nonneg, Nat.reduceEqDiff, Nat.reduceAdd, Nat.reduceSub, Nat.reduceLT, Nat.reduceMul, Nat.reduceBEq, Nat.reduceLeDiff, ↓reduceIte, Int.toNat_natCast, Int.reduceToNat, Int.toNat_zero, Int.toNat_one, not_true_eq_false, false_or, or_self, Nat.reduceGT, Option.isSome_some, Bool.and_self, Nat.zero_add, Nat.mul_one, List.length_map, List.take_length, Int.cast_ofNat_Int, Int.reduceLE, Int.reduceLT, Int.reduceGE, Int.reduceGT, Int.reduceEq, Int.reduceNe, Int.le_refl, Nat.le_refl, Nat.reduceAdd, ne_eq, not_false_eq_true, reduceCtorEq, beq_true, beq_false, BEq.rfl, Bool.not_true, Bool.not_false, decide_true, decide_false, exists_prop, hblk, HeapV, wordsAV, intsAV, iv]
  have w1 : IntKind.i64.wrap ((fs.length : Int) + 1) = (fs.length : Int) + 1 := IntWalk.i64_in _ (by omega)
  simp only [w1]
  refine ⟨rfl, by simp, fun hd3 => ?_⟩
  refine append_by (a := intsAV hs g.s) (b := .lst 1 hd3 [iv ((fs.length : Int) + 1)]) (l1 := [(3, 1, hd3), (65, 2, hd2), (3, 1, hd1), (65, 2, hc2)]) (l2 := (3, 1, ho') :: l2) (h := hs) (h2 := hd3) Try.k41 Try.s3 Try.y3 Try.z3 rfl (by decide)
    (by simp [go_sem, intsAV]) (Cast.refl _) (by simp [go_sem, iv]) (Cast.refl _) (by simp [go_sem]) (by simp [go_sem, iv]) (by simp [maxLen]; omega) (by simp; omega) (by simp [go_sem]) (fun hs1 => ?_)
  simp only [go_sem, Int.natCast_nonneg, Nat.reduceEqDiff, Nat.reduceAdd, Nat.reduceSub, Nat.reduceLT, Nat.reduceMul, Nat.reduceBEq, Nat.reduceLeDiff, ↓reduceIte, Int.toNat_natCast, Int.reduceToNat, Int.toNat_zero, Int.toNat_one, not_true_eq_false, false_or, or_self, Nat.reduceGT, Option.isSome_some, Bool.and_self, Nat.zero_add, Nat.mul_one, List.length_map, List.take_length, Int.cast_ofNat_Int, Int.reduceLE, Int.reduceLT, Int.reduceGE, Int.reduceGT, Int.reduceEq, Int.reduceNe, Int.le_refl, Nat.le_refl, Nat.reduceAdd, ne_eq, not_false_eq_true, reduceCtorEq, beq_true, beq_false, BEq.rfl, Bool.not_true, Bool.not_false, decide_true, decide_false, exists_prop, hblk, HeapV, wordsAV, intsAV, iv]
  refine aw_loopX 63 (fun x : Nat × Value => [(0, sptrAV hb), (7, .v (.int .i64 g.c.length)), (49, .v (.int .i64 fs.length)), (50, .v (.int .i64 x.1))])
    (fun x => (hp.setBlk hb 105 [iv size, .lst 2 hc2 (g.c.map WordG.av ++ [WordG.av ⟨false, tag⟩] ++ fs.map WordG.av), .lst 1 x.2 (g.s.map iv ++ [iv ((fs.length : Int) + 1)] ++ (List.replicate x.1 0).map iv), .lst 1 ho' (g.o.map iv ++ [iv g.c.length])]).setSp (spE hc2 x.2 ho' l2))
    (fun x => x.1 ≤ fs.length) (fun x => fs.length - x.1) (0, hs1) (Nat.zero_le _) (le_mkSl rfl ?_ ?_) ?_
  · simp only [go_sem, Int.natCast_nonneg, Nat.reduceEqDiff, Nat.reduceAdd, Nat.reduceSub, Nat.reduceLT, Nat.reduceMul, Nat.reduceBEq, Nat.reduceLeDiff, ↓reduceIte, Int.toNat_natCast, Int.reduceToNat, Int.toNat_zero, Int.toNat_one, not_true_eq_false, false_or, or_self, Nat.reduceGT, Option.isSome_some, Bool.and_self, Nat.zero_add, Nat.mul_one, List.length_map, List.take_length, Int.cast_ofNat_Int, Int.reduceLE, Int.reduceLT, Int.reduceGE, Int.reduceGT, Int.reduceEq, Int.reduceNe, Int.le_refl, Nat.le_refl, Nat.reduceAdd, ne_eq, not_false_eq_true, reduceCtorEq, beq_true, beq_false, BEq.rfl, Bool.not_true, Bool.not_false, decide_true, decide_false, exists_prop]
    exact le_blk (by funext i; by_cases e : i = hb <;> simp [Hp.setBlk, Hp.setSp, e, iv]) rfl (List.sublist_append_right [_, _, _] _) rfl
  · simp [go_sem, sptrAV]
  rintro ⟨j, hs2⟩ hj
  simp only at hj
  refine awp_sound (mu := [22, 35, 47, 60]) _ _ _ ?_
  simp only [go_sem, Int.natCast_nonneg, Nat.reduceEqDiff, Nat.reduceAdd, Nat.reduceSub, Nat.reduceLT, Nat.reduceMul, Nat.reduceBEq, Nat.reduceLeDiff, ↓reduceIte, Int.toNat_natCast, Int.reduceToNat, Int.toNat_zero, Int.toNat_one, not_true_eq_false, false_or, or_self, Nat.reduceGT, Option.isSome_some, Bool.and_self, Nat.zero_add, Nat.mul_one, List.length_map, List.take_length, Int.cast_ofNat_Int, Int.reduceLE, Int.reduceLT, Int.reduceGE, Int.reduceGT, Int.reduceEq, Int.reduceNe, Int.le_refl, Nat.le_refl, Nat.reduceAdd, ne_eq, not_false_eq_true, reduceCtorEq, beq_true, beq_false, BEq.rfl, Bool.not_true, Bool.not_false, decide_true, decide_false, exists_prop, sptrAV, iv]
  refine brK_mk (fun h1 => ?_) (fun h1 => ?_) <;> simp only [go_sem, Int.natCast_nonneg, Nat.reduceEqDiff, Nat.reduceAdd, Nat.reduceSub, Nat.reduceLT, Nat.reduceMul, Nat.reduceBEq, Nat.reduceLeDiff, ↓reduceIte, Int.toNat_natCast, Int.reduceToNat, Int.toNat_zero, Int.toNat_one, not_true_eq_false, false_or, or_self, Nat.reduceGT, Option.isSome_some, Bool.and_self, Nat.zero_add, Nat.mul_one, List.length_map, List.take_length, Int.cast_ofNat_Int, Int.reduceLE, Int.reduceLT, Int.reduceGE, Int.reduceGT, Int.reduceEq, Int.reduceNe, Int.le_refl, Nat.le_refl, Nat.reduceAdd, ne_eq, not_false_eq_true, reduceCtorEq, beq_true, beq_false, BEq.rfl, Bool.not_true, Bool.not_false, decide_true, decide_false, exists_prop, h1, iv]
  · have hj' : j < fs.length := by simpa using h1
    have wj : IntKind.i64.wrap ((j : Int) + 1) = ((j + 1 : Nat) : Int) := IntWalk.i64_in _ (by omega)
    refine ⟨rfl, by simp, fun hd4 => ?_⟩
    refine append_by (a := .lst 1 hs2 (g.s.map iv ++ [iv ((fs.length : Int) + 1)] ++ (List.replicate j 0).map iv)) (b := .lst 1 hd4 [iv 0]) (l1 := [(3, 1, hd4), (65, 2, hc2)]) (l2 := (3, 1, ho') :: l2) (h := hs2) (h2 := hd4) Try.k41 Try.s3 Try.y3 Try.z3 rfl (by decide)
      (by simp [go_sem, iv]) (Cast.refl _) (by simp [go_sem, iv]) (Cast.refl _) (by simp [go_sem]) (by simp [go_sem, iv]) (by simp [maxLen]; omega) (by simp; omega) (by simp [go_sem]) (fun hs3 => ?_)
    simp only [go_sem, Int.natCast_nonneg, Nat.reduceEqDiff, Nat.reduceAdd, Nat.reduceSub, Nat.reduceLT, Nat.reduceMul, Nat.reduceBEq, Nat.reduceLeDiff, ↓reduceIte, Int.toNat_natCast, Int.reduceToNat, Int.toNat_zero, Int.toNat_one, not_true_eq_false, false_or, or_self, Nat.reduceGT, Option.isSome_some, Bool.and_self, Nat.zero_add, Nat.mul_one, List.length_map, List.take_length, Int.cast_ofNat_Int, Int.reduceLE, Int.reduceLT, Int.reduceGE, Int.reduceGT, Int.reduceEq, Int.reduceNe, Int.le_refl, Nat.le_refl, Nat.reduceAdd, ne_eq, not_false_eq_true, reduceCtorEq, beq_true, beq_false, BEq.rfl, Bool.not_true, Bool.not_false, decide_true, decide_false, exists_prop, wj, iv]
    refine ⟨(j + 1, hs3), by simp only; omega, by simp only; omega, le_mkSl rfl ?_ ?_⟩
    · simp only [go_sem, Int.natCast_nonneg, Nat.reduceEqDiff, Nat.reduceAdd, Nat.reduceSub, Nat.reduceLT, Nat.reduceMul, Nat.reduceBEq, Nat.reduceLeDiff, ↓reduceIte, Int.toNat_natCast, Int.reduceToNat, Int.toNat_zero, Int.toNat_one, not_true_eq_false, false_or, or_self, Nat.reduceGT, Option.isSome_some, Bool.and_self, Nat.zero_add, Nat.mul_one, List.length_map, List.take_length, Int.cast_ofNat_Int, Int.reduceLE, Int.reduceLT, Int.reduceGE, Int.reduceGT, Int.reduceEq, Int.reduceNe, Int.le_refl, Nat.le_refl, Nat.reduceAdd, ne_eq, not_false_eq_true, reduceCtorEq, beq_true, beq_false, BEq.rfl, Bool.not_true, Bool.not_false, decide_true, decide_false, exists_prop]
      exact le_blk (by funext i; by_cases e : i = hb <;> simp [Hp.setBlk, Hp.setSp, e, iv, List.replicate_succ']) rfl (List.sublist_append_right [_] _) rfl
    · simp [go_sem, sptrAV]
  · have e : j = fs.length := by simp at h1; omega
    subst e
    exact ret_same ⟨rfl, hc2, hs2, ho', by simp [putG, iv, WordG.av, List.map_append]⟩
end Go.Proofs.Ytfdlfcafcjhpmaa
