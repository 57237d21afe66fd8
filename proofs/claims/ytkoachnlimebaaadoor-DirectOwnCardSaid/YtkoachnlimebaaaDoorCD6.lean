/- The reference of declarations: Codata, Has, Ends, Source, lists that are the same. -/
import Derived.Test.YtkoachnlimebaaaDoorCD4
import Derived.Test.YtkoachnlimebaaaDoorCAL17
set_option linter.unusedSimpArgs false
set_option linter.unusedVariables false
set_option maxRecDepth 20000
namespace Go.Proofs.YtkoachnlimebaaaDoor
open Go.AL

def hasN (l : List DeclG) (t n : Int) : Bool := decide (t ≥ 1) && decide (t ≤ l.length) && decide (n ≥ 0) && decide (n < ((xtorsOf l t).length : Int))
/-! ### Lists that are the same -/
def sameBy {α : Type} (f : α → α → Bool) : List α → List α → Bool
  | [], [] => true
  | x :: a, y :: b => f x y && sameBy f a b
  | _, _ => false
theorem sameBy_len {α : Type} (f : α → α → Bool) : ∀ (a b : List α), a.length ≠ b.length → sameBy f a b = false
  | [], [], h => absurd rfl h
  | [], y :: b, h => rfl
  | x :: a, [], h => rfl
  | x :: a, y :: b, h => by
    rw [sameBy, sameBy_len f a b (by simpa using h), Bool.and_false]

def argEq (x y : ArgG) : Bool := decide (x.typ = y.typ) && decide (x.co = y.co)
theorem sameArgs_calls (ha hb : Value) (a b : List ArgG) (hp : Hp) : ACalls Tryd.prog 40 [.lst 2 ha (a.map ArgG.av), .lst 2 hb (b.map ArgG.av)] hp (fun r hp' => r = .v (.bool (sameBy argEq a b)) ∧ hp' = hp) := by
  refine acalls_fit (callable_of Tryd.func40 (by decide +kernel)) fun hfit => ?_
  have hl : a.length ≤ maxLen := by have := hfit.1; simp only [AV.fit, List.length_map] at this; exact this.1
  refine acalls_of Tryd.func40 rfl (by decide +kernel) (awp_sound (mu := []) _ _ _ ?_)
  simp only [go_sem, Nat.reduceEqDiff, Nat.reduceAdd, Nat.reduceSub, Nat.reduceLT, Nat.reduceMul, Nat.reduceBEq, Nat.reduceLeDiff, ↓reduceIte, Int.reduceToNat, Nat.reduceGT, Int.reduceLE, Int.reduceLT, Int.reduceGE, Int.reduceGT, Int.reduceEq, Int.reduceNe, reduceCtorEq]
  refine brK_mk (fun h1 => ?_) (fun h1 => ?_) <;> simp only [go_sem, Nat.reduceEqDiff, Nat.reduceAdd, Nat.reduceSub, Nat.reduceLT, Nat.reduceMul, Nat.reduceBEq, Nat.reduceLeDiff, ↓reduceIte, Int.reduceToNat, Nat.reduceGT, Int.reduceLE, Int.reduceLT, Int.reduceGE, Int.reduceGT, Int.reduceEq, Int.reduceNe, reduceCtorEq, h1]
  · have hlen : a.length = b.length := by simp at h1; omega
    refine aw_loopX 26 (fun k : Nat => [(0, .lst 2 ha (a.map ArgG.av)), (1, .lst 2 hb (b.map ArgG.av)), (12, .v (.int .i64 a.length)), (13, .v (.int .i64 k))])
      (fun _ => hp) (fun k => k ≤ a.length ∧ sameBy argEq (a.drop k) (b.drop k) = sameBy argEq a b) (fun k => a.length - k) 0
      ⟨Nat.zero_le _, rfl⟩ (le_mkSl rfl (Hp.le_refl _) (by simp [go_sem])) ?_
    rintro k ⟨hk, hall⟩
    refine awp_sound (mu := []) _ _ _ ?_
    simp only [go_sem, Nat.reduceEqDiff, Nat.reduceAdd, Nat.reduceSub, Nat.reduceLT, Nat.reduceMul, Nat.reduceBEq, Nat.reduceLeDiff, ↓reduceIte, Int.reduceToNat, Nat.reduceGT, Int.reduceLE, Int.reduceLT, Int.reduceGE, Int.reduceGT, Int.reduceEq, Int.reduceNe, reduceCtorEq]
    refine brK_mk (fun h => ?_) (fun h => ?_) <;> simp only [go_sem, Nat.reduceEqDiff, Nat.reduceAdd, Nat.reduceSub, Nat.reduceLT, Nat.reduceMul, Nat.reduceBEq, Nat.reduceLeDiff, ↓reduceIte, Int.reduceToNat, Nat.reduceGT, Int.reduceLE, Int.reduceLT, Int.reduceGE, Int.reduceGT, Int.reduceEq, Int.reduceNe, reduceCtorEq, h]
    · have hk' : k < a.length := by simpa using h
      obtain ⟨x, hx⟩ := some_at a k hk'
      obtain ⟨y, hy⟩ := some_at b k (by omega)
      rw [drop_at _ _ _ hx, drop_at _ _ _ hy, sameBy] at hall
      refine draw_by (mu := []) (fun _ => True) (.take 0 (.take 1 (.take 2 (.take 3 (.take 4 (.take 5 (.take 6 (.take 7 (.take 8 (.done)))))))))) (by decide +kernel) trivial (by decide +kernel) (by decide +kernel) ?_
      simp only [go_sem, Nat.reduceEqDiff, Nat.reduceAdd, Nat.reduceSub, Nat.reduceLT, Nat.reduceMul, Nat.reduceBEq, Nat.reduceLeDiff, ↓reduceIte, Int.reduceToNat, Nat.reduceGT, Int.reduceLE, Int.reduceLT, Int.reduceGE, Int.reduceGT, Int.reduceEq, Int.reduceNe, reduceCtorEq, map_at ArgG.av _ _ _ hx, map_at ArgG.av _ _ _ hy, ArgG.av, ArgG.cs]
      generalize hq : (decide (x.typ = y.typ) && decide (x.co = y.co)) = q
      have hxy : argEq x y = q := hq
      refine brK_mk (fun h2 => ?_) (fun h2 => ?_) <;> simp only [go_sem, Nat.reduceEqDiff, Nat.reduceAdd, Nat.reduceSub, Nat.reduceLT, Nat.reduceMul, Nat.reduceBEq, Nat.reduceLeDiff, ↓reduceIte, Int.reduceToNat, Nat.reduceGT, Int.reduceLE, Int.reduceLT, Int.reduceGE, Int.reduceGT, Int.reduceEq, Int.reduceNe, reduceCtorEq, h2]
      · refine ⟨k + 1, by omega, ⟨by omega, by rw [← hall, hxy, h2, Bool.true_and]⟩, le_mkSl rfl (Hp.le_refl _) ?_⟩
        simp [go_sem, wrap_up k _ hk' hl]
      · exact ret_same ⟨by rw [← hall, hxy, h2, Bool.false_and], rfl⟩
    · have e : a.length ≤ k := by simp at h; omega
      rw [List.drop_of_length_le e, List.drop_of_length_le (hlen ▸ e)] at hall
      exact ret_same ⟨by rw [← hall]; rfl, rfl⟩
  · have hlen : a.length ≠ b.length := by simp at h1; omega
    exact ret_same ⟨by rw [sameBy_len _ _ _ hlen], rfl⟩
end Go.Proofs.YtkoachnlimebaaaDoor
/- chiasmusref01.Is. -/
set_option linter.unusedSimpArgs false
set_option linter.unusedVariables false
set_option maxRecDepth 20000
namespace Go.Proofs.YtkoachnlimebaaaDoor
open Go.AL

def strsAV (h : Value) (l : List (List UInt8)) : AV := .lst 1 h (l.map fun s => .v (.string (bs s)))
end Go.Proofs.YtkoachnlimebaaaDoor
