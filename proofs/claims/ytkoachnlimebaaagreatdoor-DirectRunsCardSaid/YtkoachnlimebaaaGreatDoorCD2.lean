/- Names: what the functions on names of both layers compute. -/
import Derived.Test.YtkoachnlimebaaaGreatDoorCTy
import Derived.Test.YtkoachnlimebaaaGreatDoorCShelf
set_option linter.unusedSimpArgs false
set_option linter.unusedVariables false
set_option maxRecDepth 20000
namespace Go.Proofs.YtkoachnlimebaaaGreatDoor
open Go.AL

theorem wrap_up (k n : Nat) (h : k < n) (hn : n ≤ maxLen) : IntKind.i64.wrap ((k : Int) + 1) = ((k + 1 : Nat) : Int) := by
  simp only [maxLen] at hn; exact IntWalk.i64_in _ (by omega)
theorem drop_at {α : Type} (l : List α) (k : Nat) (x : α) (h : l[k]? = some x) : l.drop k = x :: l.drop (k + 1) := by
  obtain ⟨hk, rfl⟩ := List.getElem?_eq_some_iff.1 h
  exact List.drop_eq_getElem_cons hk
theorem some_at {α : Type} (l : List α) (k : Nat) (h : k < l.length) : ∃ x, l[k]? = some x := ⟨_, List.getElem?_eq_getElem h⟩

/-! ### decl -/
def lowerC (c : UInt8) : Bool := decide (97 ≤ (c.toNat : Int)) && decide ((c.toNat : Int) ≤ 122)
theorem lower_calls (c : UInt8) (hp : Hp) : ACalls Tryz.prog 176 [.v (.int .u8 c.toNat)] hp (fun r hp' => r = .v (.bool (lowerC c)) ∧ hp' = hp) := by
  refine acalls_of Tryz.func176 rfl (by decide +kernel) (awp_sound (mu := []) _ _ _ ?_)
  simp only [go_sem, Nat.reduceEqDiff, Nat.reduceAdd, Nat.reduceSub, Nat.reduceLT, Nat.reduceMul, Nat.reduceBEq, Nat.reduceLeDiff, ↓reduceIte, Int.reduceToNat, Nat.reduceGT, Int.reduceLE, Int.reduceLT, Int.reduceGE, Int.reduceGT, Int.reduceEq, Int.reduceNe, reduceCtorEq]
  refine brK_mk (fun h => ?_) (fun h => ?_) <;> simp only [go_sem, Nat.reduceEqDiff, Nat.reduceAdd, Nat.reduceSub, Nat.reduceLT, Nat.reduceMul, Nat.reduceBEq, Nat.reduceLeDiff, ↓reduceIte, Int.reduceToNat, Nat.reduceGT, Int.reduceLE, Int.reduceLT, Int.reduceGE, Int.reduceGT, Int.reduceEq, Int.reduceNe, reduceCtorEq, h]
  · exact ret_same ⟨by simp at h; simp [lowerC]; omega, rfl⟩
  · exact ret_same ⟨by simp at h; simp [lowerC]; omega, rfl⟩

def restB (c : UInt8) : Bool := lowerC c || !(decide ((c.toNat : Int) < 48) || decide ((c.toNat : Int) > 57))

theorem rest_calls (s : List UInt8) (hs : s.length ≤ maxLen) (hp : Hp) : ACalls Tryz.prog 177 [.v (.string (bs s))] hp (fun r hp' => r = .v (.bool (s.all restB)) ∧ hp' = hp) := by
  refine acalls_of Tryz.func177 rfl (by decide +kernel) (awp_sound (mu := []) _ _ _ ?_)
  simp only [go_sem, Nat.reduceEqDiff, Nat.reduceAdd, Nat.reduceSub, Nat.reduceLT, Nat.reduceMul, Nat.reduceBEq, Nat.reduceLeDiff, ↓reduceIte, Int.reduceToNat, Nat.reduceGT, Int.reduceLE, Int.reduceLT, Int.reduceGE, Int.reduceGT, Int.reduceEq, Int.reduceNe, reduceCtorEq]
  refine aw_loopX 27 (fun k : Nat => [(0, .v (.string (bs s))), (3, .v (.int .i64 k))]) (fun _ => hp) (fun k => k ≤ s.length ∧ (s.drop k).all restB = s.all restB) (fun k => s.length - k) 0
    ⟨Nat.zero_le _, rfl⟩ (le_mkSl rfl (Hp.le_refl _) (by simp [go_sem])) ?_
  rintro k ⟨hk, hall⟩
  refine awp_sound (mu := []) _ _ _ ?_
  simp only [go_sem, Nat.reduceEqDiff, Nat.reduceAdd, Nat.reduceSub, Nat.reduceLT, Nat.reduceMul, Nat.reduceBEq, Nat.reduceLeDiff, ↓reduceIte, Int.reduceToNat, Nat.reduceGT, Int.reduceLE, Int.reduceLT, Int.reduceGE, Int.reduceGT, Int.reduceEq, Int.reduceNe, reduceCtorEq]
  refine brK_mk (fun h => ?_) (fun h => ?_)
  · have hk' : k < s.length := by simpa using h
    obtain ⟨c, hg⟩ := some_at s k hk'
    rw [drop_at s k c hg, List.all_cons] at hall
    simp only [go_sem, Nat.reduceEqDiff, Nat.reduceAdd, Nat.reduceSub, Nat.reduceLT, Nat.reduceMul, Nat.reduceBEq, Nat.reduceLeDiff, ↓reduceIte, Int.reduceToNat, Nat.reduceGT, Int.reduceLE, Int.reduceLT, Int.reduceGE, Int.reduceGT, Int.reduceEq, Int.reduceNe, reduceCtorEq, h, hg]
    refine callX_by (lower_calls _ _) ?_
    rintro r hp' ⟨rfl, rfl⟩
    simp only [go_sem, Nat.reduceEqDiff, Nat.reduceAdd, Nat.reduceSub, Nat.reduceLT, Nat.reduceMul, Nat.reduceBEq, Nat.reduceLeDiff, ↓reduceIte, Int.reduceToNat, Nat.reduceGT, Int.reduceLE, Int.reduceLT, Int.reduceGE, Int.reduceGT, Int.reduceEq, Int.reduceNe, reduceCtorEq, h, hg]
    have hc : restB c = (lowerC c || !(decide ((c.toNat : Int) < 48) || decide ((c.toNat : Int) > 57))) := rfl
    rcases h0 : lowerC c <;> rcases h1 : decide ((c.toNat : Int) < 48) <;> rcases h2 : decide ((c.toNat : Int) > 57) <;> simp only [go_sem, Nat.reduceEqDiff, Nat.reduceAdd, Nat.reduceSub, Nat.reduceLT, Nat.reduceMul, Nat.reduceBEq, Nat.reduceLeDiff, ↓reduceIte, Int.reduceToNat, Nat.reduceGT, Int.reduceLE, Int.reduceLT, Int.reduceGE, Int.reduceGT, Int.reduceEq, Int.reduceNe, reduceCtorEq, h, hg, h0, h1, h2] <;>
      simp only [h0, h1, h2, Bool.or_true, Bool.or_false, Bool.true_or, Bool.not_true, Bool.not_false] at hc <;> rw [hc] at hall <;>
      first
      | exact ret_same ⟨by rw [← hall]; rfl, rfl⟩
      | (refine ⟨k + 1, by omega, ⟨by omega, by rw [← hall]; rfl⟩, le_mkSl rfl (Hp.le_refl _) ?_⟩
         simp [go_sem, wrap_up k _ hk' hs])
  · simp only [go_sem, Nat.reduceEqDiff, Nat.reduceAdd, Nat.reduceSub, Nat.reduceLT, Nat.reduceMul, Nat.reduceBEq, Nat.reduceLeDiff, ↓reduceIte, Int.reduceToNat, Nat.reduceGT, Int.reduceLE, Int.reduceLT, Int.reduceGE, Int.reduceGT, Int.reduceEq, Int.reduceNe, reduceCtorEq, h]
    have e : k = s.length := by simp at h; omega
    subst e
    exact ret_same ⟨by rw [← hall, List.drop_length]; rfl, rfl⟩

def xtorNameB (s : List UInt8) : Bool :=
  match s with
  | [] => false
  | c :: r => decide (((r.length + 1 : Nat) : Int) ≤ 10) && decide ((c.toNat : Int) ≥ 65) && decide ((c.toNat : Int) ≤ 90) && r.all restB

theorem xtorName_calls (s : List UInt8) (hp : Hp) : ACalls Tryz.prog 175 [.v (.string (bs s))] hp (fun r hp' => r = .v (.bool (xtorNameB s)) ∧ hp' = hp) := by
  refine acalls_of Tryz.func175 rfl (by decide +kernel) (awp_sound (mu := []) _ _ _ ?_)
  cases s with
  | nil =>
    simp only [go_sem, Nat.reduceEqDiff, Nat.reduceAdd, Nat.reduceSub, Nat.reduceLT, Nat.reduceMul, Nat.reduceBEq, Nat.reduceLeDiff, ↓reduceIte, Int.reduceToNat, Nat.reduceGT, Int.reduceLE, Int.reduceLT, Int.reduceGE, Int.reduceGT, Int.reduceEq, Int.reduceNe, reduceCtorEq]
    exact ret_same ⟨rfl, rfl⟩
  | cons c r =>
    simp only [go_sem, Nat.reduceEqDiff, Nat.reduceAdd, Nat.reduceSub, Nat.reduceLT, Nat.reduceMul, Nat.reduceBEq, Nat.reduceLeDiff, ↓reduceIte, Int.reduceToNat, Nat.reduceGT, Int.reduceLE, Int.reduceLT, Int.reduceGE, Int.reduceGT, Int.reduceEq, Int.reduceNe, reduceCtorEq]
    refine brK_mk (fun h => ?_) (fun h => ?_) <;> simp only [go_sem, Nat.reduceEqDiff, Nat.reduceAdd, Nat.reduceSub, Nat.reduceLT, Nat.reduceMul, Nat.reduceBEq, Nat.reduceLeDiff, ↓reduceIte, Int.reduceToNat, Nat.reduceGT, Int.reduceLE, Int.reduceLT, Int.reduceGE, Int.reduceGT, Int.reduceEq, Int.reduceNe, reduceCtorEq, h]
    · refine brK_mk (fun h => ?_) (fun h => ?_) <;> simp only [go_sem, Nat.reduceEqDiff, Nat.reduceAdd, Nat.reduceSub, Nat.reduceLT, Nat.reduceMul, Nat.reduceBEq, Nat.reduceLeDiff, ↓reduceIte, Int.reduceToNat, Nat.reduceGT, Int.reduceLE, Int.reduceLT, Int.reduceGE, Int.reduceGT, Int.reduceEq, Int.reduceNe, reduceCtorEq, h]
      · have hl : r.length ≤ maxLen := by have h2 := h; simp at h2; simp only [maxLen]; omega
        refine brK_mk (fun h => ?_) (fun h => ?_) <;> simp only [go_sem, Nat.reduceEqDiff, Nat.reduceAdd, Nat.reduceSub, Nat.reduceLT, Nat.reduceMul, Nat.reduceBEq, Nat.reduceLeDiff, ↓reduceIte, Int.reduceToNat, Nat.reduceGT, Int.reduceLE, Int.reduceLT, Int.reduceGE, Int.reduceGT, Int.reduceEq, Int.reduceNe, reduceCtorEq, h]
        · refine brK_mk (fun h => ?_) (fun h => ?_) <;> simp only [go_sem, Nat.reduceEqDiff, Nat.reduceAdd, Nat.reduceSub, Nat.reduceLT, Nat.reduceMul, Nat.reduceBEq, Nat.reduceLeDiff, ↓reduceIte, Int.reduceToNat, Nat.reduceGT, Int.reduceLE, Int.reduceLT, Int.reduceGE, Int.reduceGT, Int.reduceEq, Int.reduceNe, reduceCtorEq, h]
          · refine ⟨by omega, ?_⟩
            refine callX_by (rest_calls _ hl _) ?_
            rintro q hp' ⟨rfl, rfl⟩
            simp only [go_sem, Nat.reduceEqDiff, Nat.reduceAdd, Nat.reduceSub, Nat.reduceLT, Nat.reduceMul, Nat.reduceBEq, Nat.reduceLeDiff, ↓reduceIte, Int.reduceToNat, Nat.reduceGT, Int.reduceLE, Int.reduceLT, Int.reduceGE, Int.reduceGT, Int.reduceEq, Int.reduceNe, reduceCtorEq]
            exact ret_same ⟨by simp only [xtorNameB, *, Bool.and_true, Bool.true_and, Bool.and_false, Bool.false_and, Bool.or_true, Bool.true_or, Bool.or_false, Bool.false_or, Bool.not_true, Bool.not_false], rfl⟩
          · exact ret_same ⟨by simp only [xtorNameB, *, Bool.and_true, Bool.true_and, Bool.and_false, Bool.false_and, Bool.or_true, Bool.true_or, Bool.or_false, Bool.false_or, Bool.not_true, Bool.not_false], rfl⟩
        · exact ret_same ⟨by simp only [xtorNameB, *, Bool.and_true, Bool.true_and, Bool.and_false, Bool.false_and, Bool.or_true, Bool.true_or, Bool.or_false, Bool.false_or, Bool.not_true, Bool.not_false], rfl⟩
      · exact ret_same ⟨by simp only [xtorNameB, *, Bool.and_true, Bool.true_and, Bool.and_false, Bool.false_and, Bool.or_true, Bool.true_or, Bool.or_false, Bool.false_or, Bool.not_true, Bool.not_false], rfl⟩
    · simp at h; omega

/-- The one variable of the library that the walks read. -/
def GOk (hp : Hp) : Prop := ∃ m, (1, [AV.v (.int .i64 m)]) ∈ hp.gl
@[go_sem] theorem GOk_setBlk (hp : Hp) (b : Nat) (T : TypeId) (cs : List AV) : GOk (hp.setBlk b T cs) = GOk hp := rfl
@[go_sem] theorem GOk_delBlk (hp : Hp) (b : Nat) : GOk (hp.delBlk b) = GOk hp := rfl
@[go_sem] theorem GOk_setMp (hp : Hp) (b : Nat) (es : List (Value × AV)) : GOk (hp.setMp b es) = GOk hp := rfl
@[go_sem] theorem GOk_setSp (hp : Hp) (l : List (TypeId × Nat × Value)) : GOk (hp.setSp l) = GOk hp := rfl

theorem contains_calls (s t : List UInt8) (hs : s.length < 4294967281) (hp : Hp) (hg : GOk hp) : ACalls Tryz.prog 160 [.v (.string (bs s)), .v (.string (bs t))] hp (fun r hp' => r = .v (.bool (Lib.contains s t)) ∧ hp' = hp) := by
  obtain ⟨k, hk⟩ := hg
  refine acalls_world (callable_of Tryz.func160 (by decide +kernel)) (fun m _ => trivial) fun base m w hh _ => ?_
  have h1 := (hh.gl _ _ hk).1
  obtain ⟨b, off, e, hr⟩ := h1
  simp only [Value.pointer.injEq, Option.some.injEq, Addr.mk.injEq] at e
  obtain ⟨rfl, rfl, -⟩ := e
  have h2 := hh.mem _ _ _ (hr 0 (.int .i64 k) (by simp [AV.vals, AV.val]))
  exact Tryz.strings_Contains (bs s) (bs t) k w hs h2

def reserved : List UInt8 := [32, 100, 97, 116, 97, 32, 99, 111, 100, 97, 116, 97, 32, 102, 117, 110, 32, 105, 110, 116, 32, 105, 102, 122, 32, 99, 97, 115, 101, 32, 99, 111, 99, 97, 115, 101, 32, 108, 101, 116, 32, 101, 109, 105, 116, 32, 108, 97, 98, 101, 108, 32, 103, 111, 116, 111, 32]
def nameB (s : List UInt8) : Bool :=
  match s with
  | [] => false
  | c :: r => decide (((r.length + 1 : Nat) : Int) ≤ 10) && lowerC c && (c :: r).all restB && !Lib.contains reserved ([32] ++ (c :: r) ++ [32])

theorem name_calls (s : List UInt8) (hp : Hp) (hg : GOk hp) : ACalls Tryz.prog 125 [.v (.string (bs s))] hp (fun r hp' => r = .v (.bool (nameB s)) ∧ hp' = hp) := by
  refine acalls_of Tryz.func125 rfl (by decide +kernel) (awp_sound (mu := []) _ _ _ ?_)
  cases s with
  | nil =>
    simp only [go_sem, Nat.reduceEqDiff, Nat.reduceAdd, Nat.reduceSub, Nat.reduceLT, Nat.reduceMul, Nat.reduceBEq, Nat.reduceLeDiff, ↓reduceIte, Int.reduceToNat, Nat.reduceGT, Int.reduceLE, Int.reduceLT, Int.reduceGE, Int.reduceGT, Int.reduceEq, Int.reduceNe, reduceCtorEq]
    exact ret_same ⟨rfl, rfl⟩
  | cons c r =>
    simp only [go_sem, Nat.reduceEqDiff, Nat.reduceAdd, Nat.reduceSub, Nat.reduceLT, Nat.reduceMul, Nat.reduceBEq, Nat.reduceLeDiff, ↓reduceIte, Int.reduceToNat, Nat.reduceGT, Int.reduceLE, Int.reduceLT, Int.reduceGE, Int.reduceGT, Int.reduceEq, Int.reduceNe, reduceCtorEq]
    refine brK_mk (fun h => ?_) (fun h => ?_) <;> simp only [go_sem, Nat.reduceEqDiff, Nat.reduceAdd, Nat.reduceSub, Nat.reduceLT, Nat.reduceMul, Nat.reduceBEq, Nat.reduceLeDiff, ↓reduceIte, Int.reduceToNat, Nat.reduceGT, Int.reduceLE, Int.reduceLT, Int.reduceGE, Int.reduceGT, Int.reduceEq, Int.reduceNe, reduceCtorEq, h]
    · refine brK_mk (fun h => ?_) (fun h => ?_) <;> simp only [go_sem, Nat.reduceEqDiff, Nat.reduceAdd, Nat.reduceSub, Nat.reduceLT, Nat.reduceMul, Nat.reduceBEq, Nat.reduceLeDiff, ↓reduceIte, Int.reduceToNat, Nat.reduceGT, Int.reduceLE, Int.reduceLT, Int.reduceGE, Int.reduceGT, Int.reduceEq, Int.reduceNe, reduceCtorEq, h]
      · have hl : r.length + 1 ≤ 10 := by have h2 := h; simp at h2; omega
        refine callX_by (lower_calls _ _) ?_
        rintro q hp' ⟨rfl, rfl⟩
        simp only [go_sem, Nat.reduceEqDiff, Nat.reduceAdd, Nat.reduceSub, Nat.reduceLT, Nat.reduceMul, Nat.reduceBEq, Nat.reduceLeDiff, ↓reduceIte, Int.reduceToNat, Nat.reduceGT, Int.reduceLE, Int.reduceLT, Int.reduceGE, Int.reduceGT, Int.reduceEq, Int.reduceNe, reduceCtorEq]
        refine brK_mk (fun h => ?_) (fun h => ?_) <;> simp only [go_sem, Nat.reduceEqDiff, Nat.reduceAdd, Nat.reduceSub, Nat.reduceLT, Nat.reduceMul, Nat.reduceBEq, Nat.reduceLeDiff, ↓reduceIte, Int.reduceToNat, Nat.reduceGT, Int.reduceLE, Int.reduceLT, Int.reduceGE, Int.reduceGT, Int.reduceEq, Int.reduceNe, reduceCtorEq, h]
        · refine callX_by (rest_calls _ (by simp only [maxLen, List.length_cons]; omega) _) ?_
          rintro q hp' ⟨rfl, rfl⟩
          simp only [go_sem, Nat.reduceEqDiff, Nat.reduceAdd, Nat.reduceSub, Nat.reduceLT, Nat.reduceMul, Nat.reduceBEq, Nat.reduceLeDiff, ↓reduceIte, Int.reduceToNat, Nat.reduceGT, Int.reduceLE, Int.reduceLT, Int.reduceGE, Int.reduceGT, Int.reduceEq, Int.reduceNe, reduceCtorEq]
          refine brK_mk (fun h => ?_) (fun h => ?_) <;> simp only [go_sem, Nat.reduceEqDiff, Nat.reduceAdd, Nat.reduceSub, Nat.reduceLT, Nat.reduceMul, Nat.reduceBEq, Nat.reduceLeDiff, ↓reduceIte, Int.reduceToNat, Nat.reduceGT, Int.reduceLE, Int.reduceLT, Int.reduceGE, Int.reduceGT, Int.reduceEq, Int.reduceNe, reduceCtorEq, h]
          · refine ⟨by omega, by omega, ?_⟩
            refine callX_by (contains_calls _ _ (by decide) _ hg) ?_
            rintro q hp' ⟨rfl, rfl⟩
            simp only [go_sem, Nat.reduceEqDiff, Nat.reduceAdd, Nat.reduceSub, Nat.reduceLT, Nat.reduceMul, Nat.reduceBEq, Nat.reduceLeDiff, ↓reduceIte, Int.reduceToNat, Nat.reduceGT, Int.reduceLE, Int.reduceLT, Int.reduceGE, Int.reduceGT, Int.reduceEq, Int.reduceNe, reduceCtorEq]
            exact ret_same ⟨by simp only [nameB, *, Bool.and_true, Bool.true_and, Bool.and_false, Bool.false_and, Bool.or_true, Bool.true_or, Bool.or_false, Bool.false_or, Bool.not_true, Bool.not_false, List.all_cons]; rfl, rfl⟩
          · exact ret_same ⟨by simp only [nameB, *, Bool.and_true, Bool.true_and, Bool.and_false, Bool.false_and, Bool.or_true, Bool.true_or, Bool.or_false, Bool.false_or, Bool.not_true, Bool.not_false, List.all_cons], rfl⟩
        · exact ret_same ⟨by simp only [nameB, *, Bool.and_true, Bool.true_and, Bool.and_false, Bool.false_and, Bool.or_true, Bool.true_or, Bool.or_false, Bool.false_or, Bool.not_true, Bool.not_false], rfl⟩
      · exact ret_same ⟨by simp only [nameB, *, Bool.and_true, Bool.true_and, Bool.and_false, Bool.false_and, Bool.or_true, Bool.true_or, Bool.or_false, Bool.false_or, Bool.not_true, Bool.not_false], rfl⟩
    · simp at h; omega

/-! ### chiasmusref01 -/
def lowB (c : UInt8) : Bool := (decide ((c.toNat : Int) ≥ 97) && decide ((c.toNat : Int) ≤ 122)) || (decide ((c.toNat : Int) ≥ 48) && decide ((c.toNat : Int) ≤ 57))
theorem rlower_calls (c : UInt8) (hp : Hp) : ACalls Tryz.prog 227 [.v (.int .u8 c.toNat)] hp (fun r hp' => r = .v (.bool (lowB c)) ∧ hp' = hp) := by
  refine acalls_of Tryz.func227 rfl (by decide +kernel) (awp_sound (mu := []) _ _ _ ?_)
  simp only [go_sem, Nat.reduceEqDiff, Nat.reduceAdd, Nat.reduceSub, Nat.reduceLT, Nat.reduceMul, Nat.reduceBEq, Nat.reduceLeDiff, ↓reduceIte, Int.reduceToNat, Nat.reduceGT, Int.reduceLE, Int.reduceLT, Int.reduceGE, Int.reduceGT, Int.reduceEq, Int.reduceNe, reduceCtorEq]
  rcases h1 : decide ((c.toNat : Int) ≥ 97) <;> rcases h2 : decide ((c.toNat : Int) ≤ 122) <;> rcases h3 : decide ((c.toNat : Int) ≥ 48) <;> simp only [go_sem, Nat.reduceEqDiff, Nat.reduceAdd, Nat.reduceSub, Nat.reduceLT, Nat.reduceMul, Nat.reduceBEq, Nat.reduceLeDiff, ↓reduceIte, Int.reduceToNat, Nat.reduceGT, Int.reduceLE, Int.reduceLT, Int.reduceGE, Int.reduceGT, Int.reduceEq, Int.reduceNe, reduceCtorEq, h1, h2, h3] <;> exact ret_same ⟨by simp only [lowB, *, Bool.and_true, Bool.true_and, Bool.and_false, Bool.false_and, Bool.or_true, Bool.true_or, Bool.or_false, Bool.false_or, Bool.not_true, Bool.not_false], rfl⟩

theorem rrest_calls (s : List UInt8) (hs : s.length ≤ maxLen) (hp : Hp) : ACalls Tryz.prog 184 [.v (.string (bs s))] hp (fun r hp' => r = .v (.bool ((s.drop 1).all lowB)) ∧ hp' = hp) := by
  refine acalls_of Tryz.func184 rfl (by decide +kernel) (awp_sound (mu := []) _ _ _ ?_)
  simp only [go_sem, Nat.reduceEqDiff, Nat.reduceAdd, Nat.reduceSub, Nat.reduceLT, Nat.reduceMul, Nat.reduceBEq, Nat.reduceLeDiff, ↓reduceIte, Int.reduceToNat, Nat.reduceGT, Int.reduceLE, Int.reduceLT, Int.reduceGE, Int.reduceGT, Int.reduceEq, Int.reduceNe, reduceCtorEq]
  refine aw_loopX 15 (fun k : Nat => [(0, .v (.string (bs s))), (3, .v (.int .i64 k))]) (fun _ => hp) (fun k => 1 ≤ k ∧ (s.drop k).all lowB = (s.drop 1).all lowB) (fun k => s.length - k) 1
    ⟨Nat.le_refl _, rfl⟩ (le_mkSl rfl (Hp.le_refl _) (by simp [go_sem])) ?_
  rintro k ⟨hk, hall⟩
  refine awp_sound (mu := []) _ _ _ ?_
  simp only [go_sem, Nat.reduceEqDiff, Nat.reduceAdd, Nat.reduceSub, Nat.reduceLT, Nat.reduceMul, Nat.reduceBEq, Nat.reduceLeDiff, ↓reduceIte, Int.reduceToNat, Nat.reduceGT, Int.reduceLE, Int.reduceLT, Int.reduceGE, Int.reduceGT, Int.reduceEq, Int.reduceNe, reduceCtorEq]
  refine brK_mk (fun h => ?_) (fun h => ?_)
  · have hk' : k < s.length := by simpa using h
    obtain ⟨c, hg⟩ := some_at s k hk'
    rw [drop_at s k c hg, List.all_cons] at hall
    simp only [go_sem, Nat.reduceEqDiff, Nat.reduceAdd, Nat.reduceSub, Nat.reduceLT, Nat.reduceMul, Nat.reduceBEq, Nat.reduceLeDiff, ↓reduceIte, Int.reduceToNat, Nat.reduceGT, Int.reduceLE, Int.reduceLT, Int.reduceGE, Int.reduceGT, Int.reduceEq, Int.reduceNe, reduceCtorEq, h, hg]
    refine callX_by (rlower_calls _ _) ?_
    rintro r hp' ⟨rfl, rfl⟩
    simp only [go_sem, Nat.reduceEqDiff, Nat.reduceAdd, Nat.reduceSub, Nat.reduceLT, Nat.reduceMul, Nat.reduceBEq, Nat.reduceLeDiff, ↓reduceIte, Int.reduceToNat, Nat.reduceGT, Int.reduceLE, Int.reduceLT, Int.reduceGE, Int.reduceGT, Int.reduceEq, Int.reduceNe, reduceCtorEq, h, hg]
    refine brK_mk (fun h => ?_) (fun h => ?_) <;> simp only [go_sem, Nat.reduceEqDiff, Nat.reduceAdd, Nat.reduceSub, Nat.reduceLT, Nat.reduceMul, Nat.reduceBEq, Nat.reduceLeDiff, ↓reduceIte, Int.reduceToNat, Nat.reduceGT, Int.reduceLE, Int.reduceLT, Int.reduceGE, Int.reduceGT, Int.reduceEq, Int.reduceNe, reduceCtorEq, h]
    · simp only [h, Bool.and_true, Bool.true_and, Bool.and_false, Bool.false_and, Bool.or_true, Bool.true_or, Bool.or_false, Bool.false_or, Bool.not_true, Bool.not_false] at hall
      refine ⟨k + 1, by omega, ⟨by omega, hall⟩, le_mkSl rfl (Hp.le_refl _) ?_⟩
      simp [go_sem, wrap_up k _ hk' hs]
    · simp only [h, Bool.and_true, Bool.true_and, Bool.and_false, Bool.false_and, Bool.or_true, Bool.true_or, Bool.or_false, Bool.false_or, Bool.not_true, Bool.not_false] at hall
      exact ret_same ⟨by rw [← hall], rfl⟩
  · simp only [go_sem, Nat.reduceEqDiff, Nat.reduceAdd, Nat.reduceSub, Nat.reduceLT, Nat.reduceMul, Nat.reduceBEq, Nat.reduceLeDiff, ↓reduceIte, Int.reduceToNat, Nat.reduceGT, Int.reduceLE, Int.reduceLT, Int.reduceGE, Int.reduceGT, Int.reduceEq, Int.reduceNe, reduceCtorEq, h]
    have e : s.length ≤ k := by simp at h; omega
    exact ret_same ⟨by rw [← hall, List.drop_of_length_le e]; rfl, rfl⟩

def rxtorNameB (s : List UInt8) : Bool :=
  match s with
  | [] => false
  | c :: r => decide (((r.length + 1 : Nat) : Int) ≤ 10) && decide ((c.toNat : Int) ≥ 65) && decide ((c.toNat : Int) ≤ 90) && r.all lowB

theorem rxtorName_calls (s : List UInt8) (hp : Hp) : ACalls Tryz.prog 139 [.v (.string (bs s))] hp (fun r hp' => r = .v (.bool (rxtorNameB s)) ∧ hp' = hp) := by
  refine acalls_of Tryz.func139 rfl (by decide +kernel) (awp_sound (mu := []) _ _ _ ?_)
  cases s with
  | nil =>
    simp only [go_sem, Nat.reduceEqDiff, Nat.reduceAdd, Nat.reduceSub, Nat.reduceLT, Nat.reduceMul, Nat.reduceBEq, Nat.reduceLeDiff, ↓reduceIte, Int.reduceToNat, Nat.reduceGT, Int.reduceLE, Int.reduceLT, Int.reduceGE, Int.reduceGT, Int.reduceEq, Int.reduceNe, reduceCtorEq]
    exact ret_same ⟨rfl, rfl⟩
  | cons c r =>
    simp only [go_sem, Nat.reduceEqDiff, Nat.reduceAdd, Nat.reduceSub, Nat.reduceLT, Nat.reduceMul, Nat.reduceBEq, Nat.reduceLeDiff, ↓reduceIte, Int.reduceToNat, Nat.reduceGT, Int.reduceLE, Int.reduceLT, Int.reduceGE, Int.reduceGT, Int.reduceEq, Int.reduceNe, reduceCtorEq]
    refine brK_mk (fun h => ?_) (fun h => ?_) <;> simp only [go_sem, Nat.reduceEqDiff, Nat.reduceAdd, Nat.reduceSub, Nat.reduceLT, Nat.reduceMul, Nat.reduceBEq, Nat.reduceLeDiff, ↓reduceIte, Int.reduceToNat, Nat.reduceGT, Int.reduceLE, Int.reduceLT, Int.reduceGE, Int.reduceGT, Int.reduceEq, Int.reduceNe, reduceCtorEq, h]
    · refine brK_mk (fun h => ?_) (fun h => ?_) <;> simp only [go_sem, Nat.reduceEqDiff, Nat.reduceAdd, Nat.reduceSub, Nat.reduceLT, Nat.reduceMul, Nat.reduceBEq, Nat.reduceLeDiff, ↓reduceIte, Int.reduceToNat, Nat.reduceGT, Int.reduceLE, Int.reduceLT, Int.reduceGE, Int.reduceGT, Int.reduceEq, Int.reduceNe, reduceCtorEq, h]
      · have hl : (c :: r).length ≤ maxLen := by have h2 := h; simp at h2; simp only [maxLen, List.length_cons]; omega
        refine brK_mk (fun h => ?_) (fun h => ?_) <;> simp only [go_sem, Nat.reduceEqDiff, Nat.reduceAdd, Nat.reduceSub, Nat.reduceLT, Nat.reduceMul, Nat.reduceBEq, Nat.reduceLeDiff, ↓reduceIte, Int.reduceToNat, Nat.reduceGT, Int.reduceLE, Int.reduceLT, Int.reduceGE, Int.reduceGT, Int.reduceEq, Int.reduceNe, reduceCtorEq, h]
        · refine brK_mk (fun h => ?_) (fun h => ?_) <;> simp only [go_sem, Nat.reduceEqDiff, Nat.reduceAdd, Nat.reduceSub, Nat.reduceLT, Nat.reduceMul, Nat.reduceBEq, Nat.reduceLeDiff, ↓reduceIte, Int.reduceToNat, Nat.reduceGT, Int.reduceLE, Int.reduceLT, Int.reduceGE, Int.reduceGT, Int.reduceEq, Int.reduceNe, reduceCtorEq, h]
          · refine callX_by (rrest_calls _ hl _) ?_
            rintro q hp' ⟨rfl, rfl⟩
            simp only [go_sem, Nat.reduceEqDiff, Nat.reduceAdd, Nat.reduceSub, Nat.reduceLT, Nat.reduceMul, Nat.reduceBEq, Nat.reduceLeDiff, ↓reduceIte, Int.reduceToNat, Nat.reduceGT, Int.reduceLE, Int.reduceLT, Int.reduceGE, Int.reduceGT, Int.reduceEq, Int.reduceNe, reduceCtorEq]
            exact ret_same ⟨by simp only [rxtorNameB, *, Bool.and_true, Bool.true_and, Bool.and_false, Bool.false_and, Bool.or_true, Bool.true_or, Bool.or_false, Bool.false_or, Bool.not_true, Bool.not_false, List.drop_succ_cons, List.drop_zero], rfl⟩
          · exact ret_same ⟨by simp only [rxtorNameB, *, Bool.and_true, Bool.true_and, Bool.and_false, Bool.false_and, Bool.or_true, Bool.true_or, Bool.or_false, Bool.false_or, Bool.not_true, Bool.not_false], rfl⟩
        · exact ret_same ⟨by simp only [rxtorNameB, *, Bool.and_true, Bool.true_and, Bool.and_false, Bool.false_and, Bool.or_true, Bool.true_or, Bool.or_false, Bool.false_or, Bool.not_true, Bool.not_false], rfl⟩
      · exact ret_same ⟨by simp only [rxtorNameB, *, Bool.and_true, Bool.true_and, Bool.and_false, Bool.false_and, Bool.or_true, Bool.true_or, Bool.or_false, Bool.false_or, Bool.not_true, Bool.not_false], rfl⟩
    · simp at h; omega

def words : List (List UInt8) := [[100, 97, 116, 97], [99, 111, 100, 97, 116, 97], [102, 117, 110], [105, 110, 116], [105, 102, 122], [99, 97, 115, 101], [99, 111, 99, 97, 115, 101], [108, 101, 116], [101, 109, 105, 116], [108, 97, 98, 101, 108], [103, 111, 116, 111]]

def resB (s : List UInt8) : Bool := words.any fun w => decide (s = w)
theorem rreserved_calls (s : List UInt8) (hp : Hp) : ACalls Tryz.prog 185 [.v (.string (bs s))] hp (fun r hp' => r = .v (.bool (resB s)) ∧ hp' = hp) := by
  refine acalls_of Tryz.func185 rfl (by decide +kernel) (awp_sound (mu := []) _ _ _ ?_)
  simp only [go_sem, Nat.reduceEqDiff, Nat.reduceAdd, Nat.reduceSub, Nat.reduceLT, Nat.reduceMul, Nat.reduceBEq, Nat.reduceLeDiff, ↓reduceIte, Int.reduceToNat, Nat.reduceGT, Int.reduceLE, Int.reduceLT, Int.reduceGE, Int.reduceGT, Int.reduceEq, Int.reduceNe, reduceCtorEq]
  refine ⟨rfl, by simp [AV.cells], fun hd => ?_⟩
  obtain ⟨ws, hws, hlen⟩ : ∃ ws, ws = words ∧ ws.length = 11 := ⟨words, rfl, rfl⟩
  refine aw_loopX 15 (fun k : Nat => [(0, .v (.string (bs s))), (5, .lst 1 hd (ws.map fun w => .v (.string (bs w)))), (6, .v (.int .i64 11)), (7, .v (.int .i64 k))]) (fun _ => hp) (fun k => k ≤ 11 ∧ (ws.drop k).any (fun w => decide (s = w)) = resB s) (fun k => 11 - k) 0
    ⟨Nat.zero_le _, by rw [hws]; rfl⟩ (le_mkSl rfl (Hp.le_addSp _ _) (by rw [hws]; simp [go_sem]; rfl)) ?_
  rintro k ⟨hk, hall⟩
  refine awp_sound (mu := []) _ _ _ ?_
  simp only [go_sem, Nat.reduceEqDiff, Nat.reduceAdd, Nat.reduceSub, Nat.reduceLT, Nat.reduceMul, Nat.reduceBEq, Nat.reduceLeDiff, ↓reduceIte, Int.reduceToNat, Nat.reduceGT, Int.reduceLE, Int.reduceLT, Int.reduceGE, Int.reduceGT, Int.reduceEq, Int.reduceNe, reduceCtorEq]
  clear hws
  refine brK_mk (fun h => ?_) (fun h => ?_)
  · have hk' : k < ws.length := by simp at h; omega
    obtain ⟨c, hg⟩ := some_at ws k hk'
    rw [drop_at ws k c hg, List.any_cons] at hall
    have hg' : (ws.map fun w => AV.v (.string (bs w)))[k]? = some (.v (.string (bs c))) := by rw [List.getElem?_map, hg]; rfl
    simp only [go_sem, Nat.reduceEqDiff, Nat.reduceAdd, Nat.reduceSub, Nat.reduceLT, Nat.reduceMul, Nat.reduceBEq, Nat.reduceLeDiff, ↓reduceIte, Int.reduceToNat, Nat.reduceGT, Int.reduceLE, Int.reduceLT, Int.reduceGE, Int.reduceGT, Int.reduceEq, Int.reduceNe, reduceCtorEq, h, hg']
    refine brK_mk (fun h => ?_) (fun h => ?_) <;> simp only [go_sem, Nat.reduceEqDiff, Nat.reduceAdd, Nat.reduceSub, Nat.reduceLT, Nat.reduceMul, Nat.reduceBEq, Nat.reduceLeDiff, ↓reduceIte, Int.reduceToNat, Nat.reduceGT, Int.reduceLE, Int.reduceLT, Int.reduceGE, Int.reduceGT, Int.reduceEq, Int.reduceNe, reduceCtorEq, h]
    · simp only [h, Bool.and_true, Bool.true_and, Bool.and_false, Bool.false_and, Bool.or_true, Bool.true_or, Bool.or_false, Bool.false_or, Bool.not_true, Bool.not_false] at hall
      exact ret_same ⟨by rw [← hall], rfl⟩
    · simp only [h, Bool.and_true, Bool.true_and, Bool.and_false, Bool.false_and, Bool.or_true, Bool.true_or, Bool.or_false, Bool.false_or, Bool.not_true, Bool.not_false] at hall
      refine ⟨k + 1, by omega, ⟨by omega, hall⟩, le_mkSl rfl (Hp.le_refl _) ?_⟩
      simp [go_sem, wrap_up k 11 (by omega) (by decide)]
  · simp only [go_sem, Nat.reduceEqDiff, Nat.reduceAdd, Nat.reduceSub, Nat.reduceLT, Nat.reduceMul, Nat.reduceBEq, Nat.reduceLeDiff, ↓reduceIte, Int.reduceToNat, Nat.reduceGT, Int.reduceLE, Int.reduceLT, Int.reduceGE, Int.reduceGT, Int.reduceEq, Int.reduceNe, reduceCtorEq, h]
    have e : ws.length ≤ k := by simp at h; omega
    exact ret_same ⟨by rw [← hall, List.drop_of_length_le e]; rfl, rfl⟩

def rnameB (s : List UInt8) : Bool :=
  match s with
  | [] => false
  | c :: r => decide (((r.length + 1 : Nat) : Int) ≤ 10) && decide ((c.toNat : Int) ≥ 97) && decide ((c.toNat : Int) ≤ 122) && r.all lowB && !resB (c :: r)

theorem rname_calls (s : List UInt8) (hp : Hp) : ACalls Tryz.prog 138 [.v (.string (bs s))] hp (fun r hp' => r = .v (.bool (rnameB s)) ∧ hp' = hp) := by
  refine acalls_of Tryz.func138 rfl (by decide +kernel) (awp_sound (mu := []) _ _ _ ?_)
  cases s with
  | nil =>
    simp only [go_sem, Nat.reduceEqDiff, Nat.reduceAdd, Nat.reduceSub, Nat.reduceLT, Nat.reduceMul, Nat.reduceBEq, Nat.reduceLeDiff, ↓reduceIte, Int.reduceToNat, Nat.reduceGT, Int.reduceLE, Int.reduceLT, Int.reduceGE, Int.reduceGT, Int.reduceEq, Int.reduceNe, reduceCtorEq]
    exact ret_same ⟨rfl, rfl⟩
  | cons c r =>
    simp only [go_sem, Nat.reduceEqDiff, Nat.reduceAdd, Nat.reduceSub, Nat.reduceLT, Nat.reduceMul, Nat.reduceBEq, Nat.reduceLeDiff, ↓reduceIte, Int.reduceToNat, Nat.reduceGT, Int.reduceLE, Int.reduceLT, Int.reduceGE, Int.reduceGT, Int.reduceEq, Int.reduceNe, reduceCtorEq]
    refine brK_mk (fun h => ?_) (fun h => ?_) <;> simp only [go_sem, Nat.reduceEqDiff, Nat.reduceAdd, Nat.reduceSub, Nat.reduceLT, Nat.reduceMul, Nat.reduceBEq, Nat.reduceLeDiff, ↓reduceIte, Int.reduceToNat, Nat.reduceGT, Int.reduceLE, Int.reduceLT, Int.reduceGE, Int.reduceGT, Int.reduceEq, Int.reduceNe, reduceCtorEq, h]
    · refine brK_mk (fun h => ?_) (fun h => ?_) <;> simp only [go_sem, Nat.reduceEqDiff, Nat.reduceAdd, Nat.reduceSub, Nat.reduceLT, Nat.reduceMul, Nat.reduceBEq, Nat.reduceLeDiff, ↓reduceIte, Int.reduceToNat, Nat.reduceGT, Int.reduceLE, Int.reduceLT, Int.reduceGE, Int.reduceGT, Int.reduceEq, Int.reduceNe, reduceCtorEq, h]
      · have hl : (c :: r).length ≤ maxLen := by have h2 := h; simp at h2; simp only [maxLen, List.length_cons]; omega
        refine brK_mk (fun h => ?_) (fun h => ?_) <;> simp only [go_sem, Nat.reduceEqDiff, Nat.reduceAdd, Nat.reduceSub, Nat.reduceLT, Nat.reduceMul, Nat.reduceBEq, Nat.reduceLeDiff, ↓reduceIte, Int.reduceToNat, Nat.reduceGT, Int.reduceLE, Int.reduceLT, Int.reduceGE, Int.reduceGT, Int.reduceEq, Int.reduceNe, reduceCtorEq, h]
        · refine brK_mk (fun h => ?_) (fun h => ?_) <;> simp only [go_sem, Nat.reduceEqDiff, Nat.reduceAdd, Nat.reduceSub, Nat.reduceLT, Nat.reduceMul, Nat.reduceBEq, Nat.reduceLeDiff, ↓reduceIte, Int.reduceToNat, Nat.reduceGT, Int.reduceLE, Int.reduceLT, Int.reduceGE, Int.reduceGT, Int.reduceEq, Int.reduceNe, reduceCtorEq, h]
          · refine callX_by (rrest_calls _ hl _) ?_
            rintro q hp' ⟨rfl, rfl⟩
            simp only [go_sem, Nat.reduceEqDiff, Nat.reduceAdd, Nat.reduceSub, Nat.reduceLT, Nat.reduceMul, Nat.reduceBEq, Nat.reduceLeDiff, ↓reduceIte, Int.reduceToNat, Nat.reduceGT, Int.reduceLE, Int.reduceLT, Int.reduceGE, Int.reduceGT, Int.reduceEq, Int.reduceNe, reduceCtorEq]
            refine brK_mk (fun h => ?_) (fun h => ?_) <;> simp only [go_sem, Nat.reduceEqDiff, Nat.reduceAdd, Nat.reduceSub, Nat.reduceLT, Nat.reduceMul, Nat.reduceBEq, Nat.reduceLeDiff, ↓reduceIte, Int.reduceToNat, Nat.reduceGT, Int.reduceLE, Int.reduceLT, Int.reduceGE, Int.reduceGT, Int.reduceEq, Int.reduceNe, reduceCtorEq, h]
            · refine callX_by (rreserved_calls _ _) ?_
              rintro q hp' ⟨rfl, rfl⟩
              simp only [go_sem, Nat.reduceEqDiff, Nat.reduceAdd, Nat.reduceSub, Nat.reduceLT, Nat.reduceMul, Nat.reduceBEq, Nat.reduceLeDiff, ↓reduceIte, Int.reduceToNat, Nat.reduceGT, Int.reduceLE, Int.reduceLT, Int.reduceGE, Int.reduceGT, Int.reduceEq, Int.reduceNe, reduceCtorEq]
              exact ret_same ⟨by simp only [rnameB, *, Bool.and_true, Bool.true_and, Bool.and_false, Bool.false_and, Bool.or_true, Bool.true_or, Bool.or_false, Bool.false_or, Bool.not_true, Bool.not_false], rfl⟩
            · exact ret_same ⟨by simp only [rnameB, *, Bool.and_true, Bool.true_and, Bool.and_false, Bool.false_and, Bool.or_true, Bool.true_or, Bool.or_false, Bool.false_or, Bool.not_true, Bool.not_false], rfl⟩
          · exact ret_same ⟨by simp only [rnameB, *, Bool.and_true, Bool.true_and, Bool.and_false, Bool.false_and, Bool.or_true, Bool.true_or, Bool.or_false, Bool.false_or, Bool.not_true, Bool.not_false], rfl⟩
        · exact ret_same ⟨by simp only [rnameB, *, Bool.and_true, Bool.true_and, Bool.and_false, Bool.false_and, Bool.or_true, Bool.true_or, Bool.or_false, Bool.false_or, Bool.not_true, Bool.not_false], rfl⟩
      · exact ret_same ⟨by simp only [rnameB, *, Bool.and_true, Bool.true_and, Bool.and_false, Bool.false_and, Bool.or_true, Bool.true_or, Bool.or_false, Bool.false_or, Bool.not_true, Bool.not_false], rfl⟩
    · simp at h; omega
end Go.Proofs.YtkoachnlimebaaaGreatDoor
/- Declarations: Valid. -/
set_option linter.unusedSimpArgs false
set_option linter.unusedVariables false
set_option maxRecDepth 20000
namespace Go.Proofs.YtkoachnlimebaaaGreatDoor
open Go.AL

structure ArgG where
  typ : Int
  co : Bool
structure XtorG where
  name : List UInt8
  h : Value
  args : List ArgG
structure DeclG where
  name : List UInt8
  codata : Bool
  h : Value
  xtors : List XtorG
def ArgG.cs (a : ArgG) : List AV := [.v (.int .i64 a.typ), .v (.bool a.co)]
def ArgG.av (a : ArgG) : AV := .agg a.cs
def XtorG.cs (x : XtorG) : List AV := [.v (.string (bs x.name)), .lst 2 x.h (x.args.map ArgG.av)]
def XtorG.av (x : XtorG) : AV := .agg x.cs
def DeclG.cs (d : DeclG) : List AV := [.v (.string (bs d.name)), .v (.bool d.codata), .lst 2 d.h (d.xtors.map XtorG.av)]
def DeclG.av (d : DeclG) : AV := .agg d.cs
def declsAV (h : Value) (l : List DeclG) : AV := .lst 3 h (l.map DeclG.av)

theorem map_at {α β : Type} (f : α → β) (l : List α) (k : Nat) (x : α) (h : l[k]? = some x) : (l.map f)[k]? = some (f x) := by rw [List.getElem?_map, h]; rfl

/-- What lists' lengths are at most. -/
structure DFit (l : List DeclG) : Prop where
  len : l.length ≤ maxLen
  xt : ∀ d ∈ l, d.xtors.length ≤ maxLen
  ar : ∀ d ∈ l, ∀ x ∈ d.xtors, x.args.length ≤ maxLen
theorem fit_xtor {x : XtorG} (h : x.av.fit) : x.args.length ≤ maxLen := by
  simp only [XtorG.av, XtorG.cs, AV.fit, AV.fits, List.length_map] at h; exact h.2.1.1
theorem fit_decls {h : Value} {l : List DeclG} (hf : (declsAV h l).fit) : DFit l := by
  simp only [declsAV, AV.fit, List.length_map, AV.fits_iff, List.mem_map, forall_exists_index, and_imp, forall_apply_eq_imp_iff₂] at hf
  refine ⟨hf.1, fun d hd => ?_, fun d hd x hx => ?_⟩
  · have := hf.2 d hd
    simp only [DeclG.av, DeclG.cs, AV.fit, AV.fits, List.length_map] at this; exact this.2.2.1.1
  · have := hf.2 d hd
    simp only [DeclG.av, DeclG.cs, AV.fit, AV.fits, AV.fits_iff, List.mem_map, forall_exists_index, and_imp, forall_apply_eq_imp_iff₂] at this
    exact fit_xtor (this.2.2.1.2 x hx)

/-! ### Maps of names -/
def ents (l : List (List UInt8)) : List (Value × AV) := l.map fun s => (.string (bs s), .v (.bool true))
def hasB (l : List (List UInt8)) (s : List UInt8) : Bool := l.any fun t => decide (s = t)
@[go_sem] theorem mfind_ents (s : List UInt8) (l : List (List UInt8)) : (mfind (.string (bs s)) (ents l)).getD (.v (.bool false)) = .v (.bool (hasB l s)) := by
  induction l with
  | nil => rfl
  | cons t l ih =>
    simp only [ents, List.map_cons, mfind, keyEq, bs_dec, hasB, List.any_cons]
    by_cases h : s = t
    · simp [h]
    · simp only [h, decide_false, Bool.false_eq_true, if_false, Bool.false_or]; exact ih
theorem mset_ents (s : List UInt8) (l : List (List UInt8)) (h : hasB l s = false) : mset (.string (bs s)) (.v (.bool true)) (ents l) = ents (l ++ [s]) := by
  induction l with
  | nil => rfl
  | cons t l ih =>
    simp only [hasB, List.any_cons, Bool.or_eq_false_iff] at h
    simp only [ents, List.map_cons, mset, keyEq, bs_dec, h.1, Bool.false_eq_true, if_false, List.cons_append]
    congr 1
    exact ih h.2
theorem key_ents (l : List (List UInt8)) : ∀ p ∈ ents l, keyOk .s p.1 = true := by
  intro p hp
  simp only [ents, List.mem_map] at hp
  obtain ⟨s, _, rfl⟩ := hp; rfl
@[go_sem] theorem key_ents' (l : List (List UInt8)) : (∀ p ∈ ents l, keyOk .s p.1 = true) = True := eq_true (key_ents l)
@[go_sem] theorem setMp_same (hp : Hp) (b : Nat) (x y : List (Value × AV)) : (hp.setMp b x).setMp b y = hp.setMp b y := by
  cases hp; simp only [Hp.setMp, Hp.mk.injEq, and_true, true_and]; funext i; by_cases h : i = b <;> simp [h]
theorem setMp_comm (hp : Hp) (a b : Nat) (x y : List (Value × AV)) (h : a ≠ b) : (hp.setMp a x).setMp b y = (hp.setMp b y).setMp a x := by
  cases hp; simp only [Hp.setMp, Hp.mk.injEq, and_true, true_and]; funext i
  by_cases h1 : i = a
  · subst h1; simp [h]
  · simp [h1]
theorem setMp_id (hp : Hp) (b : Nat) (x : List (Value × AV)) (h : hp.mp b = some x) : hp.setMp b x = hp := by
  cases hp; simp only [Hp.setMp, Hp.mk.injEq, and_true, true_and]; funext i
  by_cases h1 : i = b
  · subst h1; simp; exact h.symm
  · simp [h1]

/-! ### Valid -/
def argB (n : Nat) (a : ArgG) : Bool := !(decide (a.typ < 0) || decide (a.typ > n))
def xtorB (n : Nat) (seen : List (List UInt8)) (x : XtorG) : Bool := xtorNameB x.name && !hasB seen x.name && !decide ((x.args.length : Int) > 6) && x.args.all (argB n)

theorem fits_calls (x : XtorG) (b : Nat) (seen : List (List UInt8)) (p1 p2 hd : Value) (ds : List DeclG) (hp : Hp) (hb : hp.mp b = some (ents seen)) :
    ACalls Tryz.prog 174 [x.av, .ref p1 [.v (.map (some b))], .ref p2 [declsAV hd ds]] hp
      (fun r hp' => r = .v (.bool (xtorB ds.length seen x)) ∧ ∃ seen', hp' = hp.setMp b (ents seen') ∧ (xtorB ds.length seen x = true → seen' = seen ++ [x.name])) := by
  refine acalls_fit (callable_of Tryz.func174 (by decide +kernel)) fun hfit => ?_
  have hl := fit_xtor hfit.1
  refine acalls_of Tryz.func174 rfl (by decide +kernel) (awp_sound (mu := []) _ _ _ ?_)
  simp only [go_sem, Nat.reduceEqDiff, Nat.reduceAdd, Nat.reduceSub, Nat.reduceLT, Nat.reduceBEq, Nat.reduceLeDiff, ↓reduceIte, Int.reduceToNat, Int.reduceLE, Int.reduceLT, Int.reduceEq, reduceCtorEq, XtorG.av, XtorG.cs, declsAV]
  intro px
  refine callX_by (xtorName_calls _ _) ?_
  rintro r hp' ⟨rfl, rfl⟩
  have same := (setMp_id hp' b _ hb).symm
  simp only [go_sem, Nat.reduceEqDiff, Nat.reduceAdd, Nat.reduceSub, Nat.reduceLT, Nat.reduceBEq, Nat.reduceLeDiff, ↓reduceIte, Int.reduceToNat, Int.reduceLE, Int.reduceLT, Int.reduceEq, reduceCtorEq, hb]
  refine brK_mk (fun h1 => ?_) (fun h1 => ?_) <;> simp only [go_sem, Nat.reduceEqDiff, Nat.reduceAdd, Nat.reduceSub, Nat.reduceLT, Nat.reduceBEq, Nat.reduceLeDiff, ↓reduceIte, Int.reduceToNat, Int.reduceLE, Int.reduceLT, Int.reduceEq, reduceCtorEq, h1, hb]
  · refine brK_mk (fun h2 => ?_) (fun h2 => ?_) <;> simp only [go_sem, Nat.reduceEqDiff, Nat.reduceAdd, Nat.reduceSub, Nat.reduceLT, Nat.reduceBEq, Nat.reduceLeDiff, ↓reduceIte, Int.reduceToNat, Int.reduceLE, Int.reduceLT, Int.reduceEq, reduceCtorEq, h2, hb]
    · exact ret_same ⟨by simp only [xtorB, *, Bool.and_true, Bool.true_and, Bool.and_false, Bool.false_and, Bool.or_true, Bool.true_or, Bool.or_false, Bool.false_or, Bool.not_true, Bool.not_false], seen, same, by simp only [xtorB, *, Bool.and_true, Bool.true_and, Bool.and_false, Bool.false_and, Bool.or_true, Bool.true_or, Bool.or_false, Bool.false_or, Bool.not_true, Bool.not_false]; exact fun h => Bool.noConfusion h⟩
    · refine brK_mk (fun h3 => ?_) (fun h3 => ?_) <;> simp only [go_sem, Nat.reduceEqDiff, Nat.reduceAdd, Nat.reduceSub, Nat.reduceLT, Nat.reduceBEq, Nat.reduceLeDiff, ↓reduceIte, Int.reduceToNat, Int.reduceLE, Int.reduceLT, Int.reduceEq, reduceCtorEq, h3, hb]
      · exact ret_same ⟨by simp only [xtorB, *, Bool.and_true, Bool.true_and, Bool.and_false, Bool.false_and, Bool.or_true, Bool.true_or, Bool.or_false, Bool.false_or, Bool.not_true, Bool.not_false], seen, same, by simp only [xtorB, *, Bool.and_true, Bool.true_and, Bool.and_false, Bool.false_and, Bool.or_true, Bool.true_or, Bool.or_false, Bool.false_or, Bool.not_true, Bool.not_false]; exact fun h => Bool.noConfusion h⟩
      · have hx : xtorB ds.length seen x = x.args.all (argB ds.length) := by simp only [xtorB, *, Bool.and_true, Bool.true_and, Bool.and_false, Bool.false_and, Bool.or_true, Bool.true_or, Bool.or_false, Bool.false_or, Bool.not_true, Bool.not_false]
        rw [mset_ents _ _ h2]
        refine aw_loopX 44 (fun k : Nat => [(2, .ref p2 [.lst 3 hd (ds.map DeclG.av)]), (27, .lst 2 x.h (x.args.map ArgG.av)), (28, .v (.int .i64 x.args.length)), (29, .v (.int .i64 k))])
          (fun _ => hp'.setMp b (ents (seen ++ [x.name]))) (fun k => k ≤ x.args.length ∧ (x.args.drop k).all (argB ds.length) = x.args.all (argB ds.length)) (fun k => x.args.length - k) 0
          ⟨Nat.zero_le _, rfl⟩ (le_mkSl rfl (Hp.le_refl _) (by simp [go_sem])) ?_
        rintro k ⟨hk, hall⟩
        refine awp_sound (mu := []) _ _ _ ?_
        simp only [go_sem, Nat.reduceEqDiff, Nat.reduceAdd, Nat.reduceSub, Nat.reduceLT, Nat.reduceBEq, Nat.reduceLeDiff, ↓reduceIte, Int.reduceToNat, Int.reduceLE, Int.reduceLT, Int.reduceEq, reduceCtorEq]
        refine brK_mk (fun h => ?_) (fun h => ?_)
        · have hk' : k < x.args.length := by simpa using h
          obtain ⟨a, hg⟩ := some_at x.args k hk'
          rw [drop_at x.args k a hg, List.all_cons] at hall
          simp only [go_sem, Nat.reduceEqDiff, Nat.reduceAdd, Nat.reduceSub, Nat.reduceLT, Nat.reduceBEq, Nat.reduceLeDiff, ↓reduceIte, Int.reduceToNat, Int.reduceLE, Int.reduceLT, Int.reduceEq, reduceCtorEq, h, map_at ArgG.av _ _ _ hg, ArgG.av, ArgG.cs]
          intro v hv
          have hds := fun T cs => Hp.del_set _ _ T cs hv.1
          refine brK_mk (fun h5 => ?_) (fun h5 => ?_) <;> simp only [go_sem, Nat.reduceEqDiff, Nat.reduceAdd, Nat.reduceSub, Nat.reduceLT, Nat.reduceBEq, Nat.reduceLeDiff, ↓reduceIte, Int.reduceToNat, Int.reduceLE, Int.reduceLT, Int.reduceEq, reduceCtorEq, h5, hds]
          · have ha : x.args.all (argB ds.length) = false := by rw [← hall]; simp only [argB, h5, Bool.and_true, Bool.true_and, Bool.and_false, Bool.false_and, Bool.or_true, Bool.true_or, Bool.or_false, Bool.false_or, Bool.not_true, Bool.not_false]
            exact ret_same ⟨by rw [hx, ha], _, rfl, by rw [hx, ha]; exact fun h => Bool.noConfusion h⟩
          · refine brK_mk (fun h6 => ?_) (fun h6 => ?_) <;> simp only [go_sem, Nat.reduceEqDiff, Nat.reduceAdd, Nat.reduceSub, Nat.reduceLT, Nat.reduceBEq, Nat.reduceLeDiff, ↓reduceIte, Int.reduceToNat, Int.reduceLE, Int.reduceLT, Int.reduceEq, reduceCtorEq, h6, hds]
            · have ha : x.args.all (argB ds.length) = false := by rw [← hall]; simp only [argB, h5, h6, Bool.and_true, Bool.true_and, Bool.and_false, Bool.false_and, Bool.or_true, Bool.true_or, Bool.or_false, Bool.false_or, Bool.not_true, Bool.not_false]
              exact ret_same ⟨by rw [hx, ha], _, rfl, by rw [hx, ha]; exact fun h => Bool.noConfusion h⟩
            · refine ⟨k + 1, by omega, ⟨by omega, by rw [← hall]; simp only [argB, h5, h6, Bool.and_true, Bool.true_and, Bool.and_false, Bool.false_and, Bool.or_true, Bool.true_or, Bool.or_false, Bool.false_or, Bool.not_true, Bool.not_false]⟩, le_mkSl rfl (Hp.le_refl _) ?_⟩
              simp [go_sem, wrap_up k _ hk' hl]
        · simp only [go_sem, Nat.reduceEqDiff, Nat.reduceAdd, Nat.reduceSub, Nat.reduceLT, Nat.reduceBEq, Nat.reduceLeDiff, ↓reduceIte, Int.reduceToNat, Int.reduceLE, Int.reduceLT, Int.reduceEq, reduceCtorEq, h]
          have e : x.args.length ≤ k := by simp at h; omega
          have hv : x.args.all (argB ds.length) = true := by rw [← hall, List.drop_of_length_le e]; rfl
          exact ret_same ⟨by rw [hx, hv], _, rfl, fun _ => rfl⟩
  · exact ret_same ⟨by simp only [xtorB, *, Bool.and_true, Bool.true_and, Bool.and_false, Bool.false_and, Bool.or_true, Bool.true_or, Bool.or_false, Bool.false_or, Bool.not_true, Bool.not_false], seen, same, by simp only [xtorB, *, Bool.and_true, Bool.true_and, Bool.and_false, Bool.false_and, Bool.or_true, Bool.true_or, Bool.or_false, Bool.false_or, Bool.not_true, Bool.not_false]; exact fun h => Bool.noConfusion h⟩

def fitsAll (n : Nat) : List (List UInt8) → List XtorG → Option (List (List UInt8))
  | seen, [] => some seen
  | seen, x :: r => if xtorB n seen x = true then fitsAll n (seen ++ [x.name]) r else none
def declB (names : List (List UInt8)) (d : DeclG) : Bool := nameB d.name && !hasB names d.name && !decide ((d.xtors.length : Int) < 1) && !decide ((d.xtors.length : Int) > 6)
def validFrom (n : Nat) : List (List UInt8) → List (List UInt8) → List DeclG → Bool
  | _, _, [] => true
  | names, seen, d :: r => declB names d && match fitsAll n seen d.xtors with
    | some seen' => validFrom n (names ++ [d.name]) seen' r
    | none => false
def validB (l : List DeclG) : Bool := !decide ((l.length : Int) > 8) && validFrom l.length [] [] l

theorem valid_calls (hd : Value) (l : List DeclG) (hp : Hp) (hg : GOk hp) : ACalls Tryz.prog 123 [declsAV hd l] hp (fun r hp' => r = .v (.bool (validB l)) ∧ hp' = hp) := by
  refine acalls_fit (callable_of Tryz.func123 (by decide +kernel)) fun hfit => ?_
  have hl := fit_decls hfit.1
  refine acalls_of Tryz.func123 rfl (by decide +kernel) (awp_sound (mu := []) _ _ _ ?_)
  simp only [go_sem, Nat.reduceEqDiff, Nat.reduceAdd, Nat.reduceSub, Nat.reduceLT, Nat.reduceBEq, Nat.reduceLeDiff, ↓reduceIte, Int.reduceToNat, Int.reduceLE, Int.reduceLT, Int.reduceEq, reduceCtorEq, declsAV]
  intro p
  refine brK_mk (fun h1 => ?_) (fun h1 => ?_) <;> simp only [go_sem, Nat.reduceEqDiff, Nat.reduceAdd, Nat.reduceSub, Nat.reduceLT, Nat.reduceBEq, Nat.reduceLeDiff, ↓reduceIte, Int.reduceToNat, Int.reduceLE, Int.reduceLT, Int.reduceEq, reduceCtorEq, h1]
  · exact ret_same ⟨by simp only [validB, *, Bool.and_true, Bool.true_and, Bool.and_false, Bool.false_and, Bool.or_true, Bool.true_or, Bool.or_false, Bool.false_or, Bool.not_true, Bool.not_false], rfl⟩
  · intro b1 f1 b2 f2 b3 f3
    have hne : b1 ≠ b2 := by
      rintro rfl
      have := f2.2.1
      simp [Hp.setMp] at this
    have hmp2 : hp.mp b2 = none := by have := f2.2.1; simpa [Hp.setMp, Ne.symm hne] using this
    have hle : ∀ x y, hp.le ((hp.setMp b1 x).setMp b2 y) := fun x y => Hp.le_trans (Hp.le_setMp hp b1 x f1.2.1) (Hp.le_setMp _ b2 y (by simp [Hp.setMp, Ne.symm hne, hmp2]))
    have hvb : validB l = validFrom l.length [] [] l := by simp only [validB, h1, Bool.and_true, Bool.true_and, Bool.and_false, Bool.false_and, Bool.or_true, Bool.true_or, Bool.or_false, Bool.false_or, Bool.not_true, Bool.not_false]
    have com : ∀ x y z, ((hp.setMp b1 x).setMp b2 y).setMp b1 z = (hp.setMp b1 z).setMp b2 y := fun x y z => by rw [setMp_comm _ _ _ _ _ hne, setMp_same, setMp_comm _ _ _ _ _ (Ne.symm hne)]
    refine aw_loopX 60 (fun g : Nat × List (List UInt8) × List (List UInt8) => [(1, .ref p [.lst 3 hd (l.map DeclG.av)]), (16, .lst 3 hd (l.map DeclG.av)), (17, .v (.int .i64 l.length)), (18, .v (.int .i64 g.1)),
        (3, .v (.map (some b1))), (4, .ref (.pointer (some ⟨b3, 0, none⟩)) [.v (.map (some b2))]), (5, .fn (.func 174) [] [.ref (.pointer (some ⟨b3, 0, none⟩)) [.v (.map (some b2))], .ref p [.lst 3 hd (l.map DeclG.av)]])])
      (fun g => (hp.setMp b1 (ents g.2.1)).setMp b2 (ents g.2.2)) (fun g => g.1 ≤ l.length ∧ validFrom l.length g.2.1 g.2.2 (l.drop g.1) = validFrom l.length [] [] l) (fun g => l.length - g.1) (0, [], [])
      ⟨Nat.zero_le _, rfl⟩ (le_mkSl rfl ?_ (by simp [go_sem])) ?_
    · simp only [go_sem, Nat.reduceEqDiff, Nat.reduceAdd, Nat.reduceSub, Nat.reduceLT, Nat.reduceBEq, Nat.reduceLeDiff, ↓reduceIte, Int.reduceToNat, Int.reduceLE, Int.reduceLT, Int.reduceEq, reduceCtorEq, Hp.del_set _ _ _ _ f3.1]
      exact Hp.le_refl _
    · rintro ⟨k, names, seen⟩ ⟨hk, hall⟩
      simp only at hk hall
      refine awp_sound (mu := []) _ _ _ ?_
      simp only [go_sem, Nat.reduceEqDiff, Nat.reduceAdd, Nat.reduceSub, Nat.reduceLT, Nat.reduceBEq, Nat.reduceLeDiff, ↓reduceIte, Int.reduceToNat, Int.reduceLE, Int.reduceLT, Int.reduceEq, reduceCtorEq]
      refine brK_mk (fun h => ?_) (fun h => ?_)
      · have hk' : k < l.length := by simpa using h
        obtain ⟨d, hgd⟩ := some_at l k hk'
        have hxl := hl.xt d (List.mem_of_getElem? hgd)
        rw [drop_at l k d hgd] at hall
        simp only [go_sem, Nat.reduceEqDiff, Nat.reduceAdd, Nat.reduceSub, Nat.reduceLT, Nat.reduceBEq, Nat.reduceLeDiff, ↓reduceIte, Int.reduceToNat, Int.reduceLE, Int.reduceLT, Int.reduceEq, reduceCtorEq, h, map_at DeclG.av _ _ _ hgd, DeclG.av, DeclG.cs]
        intro v hv
        have hds := fun T cs => Hp.del_set _ _ T cs hv.1
        refine callX_by (name_calls _ _ (by simp only [go_sem]; exact hg)) ?_
        rintro r hp' ⟨rfl, rfl⟩
        have dec : declB names d = (nameB d.name && !hasB names d.name && !decide ((d.xtors.length : Int) < 1) && !decide ((d.xtors.length : Int) > 6)) := rfl
        have bad : declB names d = false → validB l = false := fun h => by rw [hvb, ← hall]; simp only [validFrom, h, Bool.and_true, Bool.true_and, Bool.and_false, Bool.false_and, Bool.or_true, Bool.true_or, Bool.or_false, Bool.false_or, Bool.not_true, Bool.not_false]
        simp only [go_sem, Nat.reduceEqDiff, Nat.reduceAdd, Nat.reduceSub, Nat.reduceLT, Nat.reduceBEq, Nat.reduceLeDiff, ↓reduceIte, Int.reduceToNat, Int.reduceLE, Int.reduceLT, Int.reduceEq, reduceCtorEq, hds, hne]
        refine brK_mk (fun h2 => ?_) (fun h2 => ?_) <;> simp only [go_sem, Nat.reduceEqDiff, Nat.reduceAdd, Nat.reduceSub, Nat.reduceLT, Nat.reduceBEq, Nat.reduceLeDiff, ↓reduceIte, Int.reduceToNat, Int.reduceLE, Int.reduceLT, Int.reduceEq, reduceCtorEq, hds, hne, h2]
        · refine brK_mk (fun h3 => ?_) (fun h3 => ?_) <;> simp only [go_sem, Nat.reduceEqDiff, Nat.reduceAdd, Nat.reduceSub, Nat.reduceLT, Nat.reduceBEq, Nat.reduceLeDiff, ↓reduceIte, Int.reduceToNat, Int.reduceLE, Int.reduceLT, Int.reduceEq, reduceCtorEq, hds, hne, h3]
          · exact ret_le (hle _ _) ⟨by rw [bad (by simp only [dec, h2, h3, Bool.and_true, Bool.true_and, Bool.and_false, Bool.false_and, Bool.or_true, Bool.true_or, Bool.or_false, Bool.false_or, Bool.not_true, Bool.not_false])], rfl⟩
          · refine brK_mk (fun h4 => ?_) (fun h4 => ?_) <;> simp only [go_sem, Nat.reduceEqDiff, Nat.reduceAdd, Nat.reduceSub, Nat.reduceLT, Nat.reduceBEq, Nat.reduceLeDiff, ↓reduceIte, Int.reduceToNat, Int.reduceLE, Int.reduceLT, Int.reduceEq, reduceCtorEq, hds, hne, h4]
            · exact ret_le (hle _ _) ⟨by rw [bad (by simp only [dec, h2, h3, h4, Bool.and_true, Bool.true_and, Bool.and_false, Bool.false_and, Bool.or_true, Bool.true_or, Bool.or_false, Bool.false_or, Bool.not_true, Bool.not_false])], rfl⟩
            · refine brK_mk (fun h5 => ?_) (fun h5 => ?_) <;> simp only [go_sem, Nat.reduceEqDiff, Nat.reduceAdd, Nat.reduceSub, Nat.reduceLT, Nat.reduceBEq, Nat.reduceLeDiff, ↓reduceIte, Int.reduceToNat, Int.reduceLE, Int.reduceLT, Int.reduceEq, reduceCtorEq, hds, hne, h5]
              · exact ret_le (hle _ _) ⟨by rw [bad (by simp only [dec, h2, h3, h4, h5, Bool.and_true, Bool.true_and, Bool.and_false, Bool.false_and, Bool.or_true, Bool.true_or, Bool.or_false, Bool.false_or, Bool.not_true, Bool.not_false])], rfl⟩
              · simp only [validFrom, dec, h2, h3, h4, h5, Bool.and_true, Bool.true_and, Bool.and_false, Bool.false_and, Bool.or_true, Bool.true_or, Bool.or_false, Bool.false_or, Bool.not_true, Bool.not_false] at hall
                rw [mset_ents _ _ h3]
                refine aw_loopX 60 (fun g : Nat × List (List UInt8) => [(1, .ref p [.lst 3 hd (l.map DeclG.av)]), (16, .lst 3 hd (l.map DeclG.av)), (17, .v (.int .i64 l.length)), (18, .v (.int .i64 k)),
                    (3, .v (.map (some b1))), (4, .ref (.pointer (some ⟨b3, 0, none⟩)) [.v (.map (some b2))]), (5, .fn (.func 174) [] [.ref (.pointer (some ⟨b3, 0, none⟩)) [.v (.map (some b2))], .ref p [.lst 3 hd (l.map DeclG.av)]]),
                    (48, .lst 2 d.h (d.xtors.map XtorG.av)), (49, .v (.int .i64 d.xtors.length)), (50, .v (.int .i64 g.1))])
                  (fun g => (hp.setMp b1 (ents (names ++ [d.name]))).setMp b2 (ents g.2)) (fun g => g.1 ≤ d.xtors.length ∧ fitsAll l.length g.2 (d.xtors.drop g.1) = fitsAll l.length seen d.xtors) (fun g => d.xtors.length - g.1) (0, seen)
                  ⟨Nat.zero_le _, rfl⟩ (le_mkSl rfl ?_ (by simp [go_sem])) ?_
                · simp only [go_sem, Nat.reduceEqDiff, Nat.reduceAdd, Nat.reduceSub, Nat.reduceLT, Nat.reduceBEq, Nat.reduceLeDiff, ↓reduceIte, Int.reduceToNat, Int.reduceLE, Int.reduceLT, Int.reduceEq, reduceCtorEq, hds, com]
                  exact Hp.le_refl _
                · rintro ⟨j, sn⟩ ⟨hj, hfa⟩
                  simp only at hj hfa
                  refine awp_sound (mu := []) _ _ _ ?_
                  simp only [go_sem, Nat.reduceEqDiff, Nat.reduceAdd, Nat.reduceSub, Nat.reduceLT, Nat.reduceBEq, Nat.reduceLeDiff, ↓reduceIte, Int.reduceToNat, Int.reduceLE, Int.reduceLT, Int.reduceEq, reduceCtorEq]
                  refine brK_mk (fun h6 => ?_) (fun h6 => ?_)
                  · have hj' : j < d.xtors.length := by simpa using h6
                    obtain ⟨x, hx⟩ := some_at d.xtors j hj'
                    rw [drop_at d.xtors j x hx] at hfa
                    simp only [go_sem, Nat.reduceEqDiff, Nat.reduceAdd, Nat.reduceSub, Nat.reduceLT, Nat.reduceBEq, Nat.reduceLeDiff, ↓reduceIte, Int.reduceToNat, Int.reduceLE, Int.reduceLT, Int.reduceEq, reduceCtorEq, h6, map_at XtorG.av _ _ _ hx, XtorG.av, XtorG.cs]
                    intro u hu
                    have hdu := fun T cs => Hp.del_set _ _ T cs hu.1
                    simp only [hdu]
                    refine callX_by (fits_calls x b2 sn _ _ hd l _ (by simp [Hp.setMp])) ?_
                    rintro r hp' ⟨rfl, sn', rfl, hsn⟩
                    simp only [go_sem, Nat.reduceEqDiff, Nat.reduceAdd, Nat.reduceSub, Nat.reduceLT, Nat.reduceBEq, Nat.reduceLeDiff, ↓reduceIte, Int.reduceToNat, Int.reduceLE, Int.reduceLT, Int.reduceEq, reduceCtorEq]
                    refine brK_mk (fun h7 => ?_) (fun h7 => ?_) <;> simp only [go_sem, Nat.reduceEqDiff, Nat.reduceAdd, Nat.reduceSub, Nat.reduceLT, Nat.reduceBEq, Nat.reduceLeDiff, ↓reduceIte, Int.reduceToNat, Int.reduceLE, Int.reduceLT, Int.reduceEq, reduceCtorEq, h7]
                    · rw [hsn h7]
                      simp only [fitsAll, h7, if_true] at hfa
                      refine ⟨(j + 1, sn ++ [x.name]), by simp only; omega, ⟨by simp only; omega, hfa⟩, le_mkSl rfl (Hp.le_refl _) ?_⟩
                      simp [go_sem, wrap_up j _ hj' hxl]
                    · simp only [fitsAll, h7, Bool.false_eq_true, if_false] at hfa
                      rw [← hfa] at hall
                      exact ret_le (hle _ _) ⟨by rw [hvb, ← hall], rfl⟩
                  · simp only [go_sem, Nat.reduceEqDiff, Nat.reduceAdd, Nat.reduceSub, Nat.reduceLT, Nat.reduceBEq, Nat.reduceLeDiff, ↓reduceIte, Int.reduceToNat, Int.reduceLE, Int.reduceLT, Int.reduceEq, reduceCtorEq, h6]
                    have e : d.xtors.length ≤ j := by simp at h6; omega
                    rw [List.drop_of_length_le e, fitsAll] at hfa
                    rw [← hfa] at hall
                    refine ⟨(k + 1, names ++ [d.name], sn), by simp only; omega, ⟨by simp only; omega, hall⟩, le_mkSl rfl (Hp.le_refl _) ?_⟩
                    simp [go_sem, wrap_up k _ hk' hl.len]
        · exact ret_le (hle _ _) ⟨by rw [bad (by simp only [dec, h2, Bool.and_true, Bool.true_and, Bool.and_false, Bool.false_and, Bool.or_true, Bool.true_or, Bool.or_false, Bool.false_or, Bool.not_true, Bool.not_false])], rfl⟩
      · simp only [go_sem, Nat.reduceEqDiff, Nat.reduceAdd, Nat.reduceSub, Nat.reduceLT, Nat.reduceBEq, Nat.reduceLeDiff, ↓reduceIte, Int.reduceToNat, Int.reduceLE, Int.reduceLT, Int.reduceEq, reduceCtorEq, h]
        have e : l.length ≤ k := by simp at h; omega
        rw [List.drop_of_length_le e, validFrom] at hall
        exact ret_le (hle _ _) ⟨by rw [hvb, ← hall], rfl⟩
end Go.Proofs.YtkoachnlimebaaaGreatDoor
