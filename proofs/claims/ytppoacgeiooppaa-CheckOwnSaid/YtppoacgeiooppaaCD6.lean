/- The reference of declarations: Codata, Has, Ends, Source, lists that are the same. -/
import Derived.Test.YtppoacgeiooppaaCD4
import Derived.Test.YtppoacgeiooppaaCAL17
set_option linter.unusedSimpArgs false
set_option linter.unusedVariables false
set_option maxRecDepth 20000
namespace Go.Proofs.Ytppoacgeiooppaa
open Go.AL

def rcodataB (l : List DeclG) (t : Int) : Bool := decide (t ≥ 1) && decide (t ≤ l.length) && codataB l t
def hasN (l : List DeclG) (t n : Int) : Bool := decide (t ≥ 1) && decide (t ≤ l.length) && decide (n ≥ 0) && decide (n < ((xtorsOf l t).length : Int))
def consN (args : List ArgG) : Nat := (args.filter ArgG.co).length
theorem consN_cons (a : ArgG) (r : List ArgG) : consN (a :: r) = (if a.co = true then 1 else 0) + consN r := by
  cases h : a.co <;> simp [consN, List.filter_cons, h]; omega
def endsB (args : List ArgG) : Bool := decide ((consN args : Int) = 1) && (args.getLast?.map ArgG.co).getD false
def rsourceX (co : Bool) (x : XtorG) : Bool := !((co && !endsB x.args) || (!co && decide ((consN x.args : Int) > 0)))
def rsourceB (l : List DeclG) : Bool := l.all fun d => d.xtors.all (rsourceX d.codata)
/-! ### Lists that are the same -/
def boolsAV (h : Value) (l : List Bool) : AV := .lst 1 h (l.map fun b => .v (.bool b))
def sameBy {α : Type} (f : α → α → Bool) : List α → List α → Bool
  | [], [] => true
  | x :: a, y :: b => f x y && sameBy f a b
  | _, _ => false
theorem sameBy_len {α : Type} (f : α → α → Bool) : ∀ (a b : List α), a.length ≠ b.length → sameBy f a b = false
  | [], [], h => absurd rfl h
  | [], y :: b, h => rfl
  | x :: a, [], h => rfl
  | x :: a, y :: b, h => by
    rw [sameBy, sameBy_len f a b (by simpa using h), Bool.and_false]

def argEq (x y : ArgG) : Bool := decide (x.typ = y.typ) && decide (x.co = y.co)
theorem sameArgs_calls (ha hb : Value) (a b : List ArgG) (hp : Hp) : ACalls Try.prog 71 [.lst 2 ha (a.map ArgG.av), .lst 2 hb (b.map ArgG.av)] hp (fun r hp' => r = .v (.bool (sameBy argEq a b)) ∧ hp' = hp) := by
  refine acalls_fit (callable_of Try.func71 (by decide +kernel)) fun hfit => ?_
  have hl : a.length ≤ maxLen := by have := hfit.1; simp only [AV.fit, List.length_map] at this; exact this.1
  refine acalls_of Try.func71 rfl (by decide +kernel) (awp_sound (mu := []) _ _ _ ?_)
  simp only [go_sem, Nat.reduceEqDiff, Nat.reduceAdd, Nat.reduceSub, Nat.reduceLT, Nat.reduceMul, Nat.reduceBEq, Nat.reduceLeDiff, ↓reduceIte, Int.reduceToNat, Nat.reduceGT, Int.reduceLE, Int.reduceLT, Int.reduceGE, Int.reduceGT, Int.reduceEq, Int.reduceNe, reduceCtorEq]
  refine brK_mk (fun h1 => ?_) (fun h1 => ?_) <;> simp only [go_sem, Nat.reduceEqDiff, Nat.reduceAdd, Nat.reduceSub, Nat.reduceLT, Nat.reduceMul, Nat.reduceBEq, Nat.reduceLeDiff, ↓reduceIte, Int.reduceToNat, Nat.reduceGT, Int.reduceLE, Int.reduceLT, Int.reduceGE, Int.reduceGT, Int.reduceEq, Int.reduceNe, reduceCtorEq, h1]
  · have hlen : a.length = b.length := by simp at h1; omega
    refine aw_loopX 26 (fun k : Nat => [(0, .lst 2 ha (a.map ArgG.av)), (1, .lst 2 hb (b.map ArgG.av)), (12, .v (.int .i64 a.length)), (13, .v (.int .i64 k))])
      (fun _ => hp) (fun k => k ≤ a.length ∧ sameBy argEq (a.drop k) (b.drop k) = sameBy argEq a b) (fun k => a.length - k) 0
      ⟨Nat.zero_le _, rfl⟩ (le_mkSl rfl (Hp.le_refl _) (by simp [go_sem])) ?_
    rintro k ⟨hk, hall⟩
    refine awp_sound (mu := []) _ _ _ ?_
    simp only [go_sem, Nat.reduceEqDiff, Nat.reduceAdd, Nat.reduceSub, Nat.reduceLT, Nat.reduceMul, Nat.reduceBEq, Nat.reduceLeDiff, ↓reduceIte, Int.reduceToNat, Nat.reduceGT, Int.reduceLE, Int.reduceLT, Int.reduceGE, Int.reduceGT, Int.reduceEq, Int.reduceNe, reduceCtorEq]
    refine brK_mk (fun h => ?_) (fun h => ?_) <;> simp only [go_sem, Nat.reduceEqDiff, Nat.reduceAdd, Nat.reduceSub, Nat.reduceLT, Nat.reduceMul, Nat.reduceBEq, Nat.reduceLeDiff, ↓reduceIte, Int.reduceToNat, Nat.reduceGT, Int.reduceLE, Int.reduceLT, Int.reduceGE, Int.reduceGT, Int.reduceEq, Int.reduceNe, reduceCtorEq, h]
    · have hk' : k < a.length := by simpa using h
      obtain ⟨x, hx⟩ := some_at a k hk'
      obtain ⟨y, hy⟩ := some_at b k (by omega)
      rw [drop_at _ _ _ hx, drop_at _ _ _ hy, sameBy] at hall
      refine draw_by (mu := []) (fun _ => True) (.take 0 (.take 1 (.take 2 (.take 3 (.take 4 (.take 5 (.take 6 (.take 7 (.take 8 (.done)))))))))) (by decide +kernel) trivial (by decide +kernel) (by decide +kernel) ?_
      simp only [go_sem, Nat.reduceEqDiff, Nat.reduceAdd, Nat.reduceSub, Nat.reduceLT, Nat.reduceMul, Nat.reduceBEq, Nat.reduceLeDiff, ↓reduceIte, Int.reduceToNat, Nat.reduceGT, Int.reduceLE, Int.reduceLT, Int.reduceGE, Int.reduceGT, Int.reduceEq, Int.reduceNe, reduceCtorEq, map_at ArgG.av _ _ _ hx, map_at ArgG.av _ _ _ hy, ArgG.av, ArgG.cs]
      generalize hq : (decide (x.typ = y.typ) && decide (x.co = y.co)) = q
      have hxy : argEq x y = q := hq
      refine brK_mk (fun h2 => ?_) (fun h2 => ?_) <;> simp only [go_sem, Nat.reduceEqDiff, Nat.reduceAdd, Nat.reduceSub, Nat.reduceLT, Nat.reduceMul, Nat.reduceBEq, Nat.reduceLeDiff, ↓reduceIte, Int.reduceToNat, Nat.reduceGT, Int.reduceLE, Int.reduceLT, Int.reduceGE, Int.reduceGT, Int.reduceEq, Int.reduceNe, reduceCtorEq, h2]
      · refine ⟨k + 1, by omega, ⟨by omega, by rw [← hall, hxy, h2, Bool.true_and]⟩, le_mkSl rfl (Hp.le_refl _) ?_⟩
        simp [go_sem, wrap_up k _ hk' hl]
      · exact ret_same ⟨by rw [← hall, hxy, h2, Bool.false_and], rfl⟩
    · have e : a.length ≤ k := by simp at h; omega
      rw [List.drop_of_length_le e, List.drop_of_length_le (hlen ▸ e)] at hall
      exact ret_same ⟨by rw [← hall]; rfl, rfl⟩
  · have hlen : a.length ≠ b.length := by simp at h1; omega
    exact ret_same ⟨by rw [sameBy_len _ _ _ hlen], rfl⟩
end Go.Proofs.Ytppoacgeiooppaa
/- chiasmusref01.Is. -/
set_option linter.unusedSimpArgs false
set_option linter.unusedVariables false
set_option maxRecDepth 20000
namespace Go.Proofs.Ytppoacgeiooppaa
open Go.AL

def strsAV (h : Value) (l : List (List UInt8)) : AV := .lst 1 h (l.map fun s => .v (.string (bs s)))
def rxtorB (n : Nat) (seen : List (List UInt8)) (x : XtorG) : Bool := rxtorNameB x.name && !decide ((x.args.length : Int) > 6) && !hasB seen x.name && x.args.all (argB n)
def rfitsAll (n : Nat) : List (List UInt8) → List XtorG → Option (List (List UInt8))
  | seen, [] => some seen
  | seen, x :: r => if rxtorB n seen x = true then rfitsAll n (seen ++ [x.name]) r else none
def rdeclB (names : List (List UInt8)) (d : DeclG) : Bool := rnameB d.name && !decide ((d.xtors.length : Int) < 1) && !decide ((d.xtors.length : Int) > 6) && !(names.any fun e => decide (e = d.name))
def risFrom (n : Nat) : List (List UInt8) → List (List UInt8) → List DeclG → Bool
  | _, _, [] => true
  | names, seen, d :: r => rdeclB names d && match rfitsAll n seen d.xtors with
    | some seen' => risFrom n (names ++ [d.name]) seen' r
    | none => false
def risB (l : List DeclG) : Bool := !decide ((l.length : Int) > 8) && risFrom l.length [] [] l

end Go.Proofs.Ytppoacgeiooppaa
