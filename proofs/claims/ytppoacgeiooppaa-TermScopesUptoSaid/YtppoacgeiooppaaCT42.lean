/- The reference of the layer 'term': free, Free. -/
import Derived.Test.YtppoacgeiooppaaCT41
set_option linter.unusedSimpArgs false
set_option linter.unusedVariables false
set_option maxRecDepth 20000
set_option maxHeartbeats 4000000
namespace Go.Proofs.Ytppoacgeiooppaa
open Go.AL

abbrev SS := List Bytes × List Bytes
def argL0 (L : Bytes → Bool) (op : Int) (name : Bytes) (k : Nat) : Bytes → Bool := if op = 11 ∧ k = 0 then addP L name else L
def startS (bv bl : Bytes → Bool) (op : Int) (name : Bytes) (s : SS) : SS := (if op = 0 ∧ bv name = false then insS s.1 name else s.1, if op = 12 ∧ bl name = false then insS s.2 name else s.2)
mutual
def frT (bv bl : Bytes → Bool) : TermG → SS → SS
  | .mk op n name ty ha args hc cls, s => frC bv bl cls (frA bv bl op name 0 args (startS bv bl op name s))
def frA (bv bl : Bytes → Bool) (op : Int) (name : Bytes) (k : Nat) : List TermG → SS → SS
  | [], s => s
  | a :: r, s => frA bv bl op name (k + 1) r (frT (argV bv op name k) (argL0 bl op name k) a s)
def frC (bv bl : Bytes → Bool) : List ClauseG → SS → SS
  | [], s => s
  | c :: r, s => frC bv bl r (frB bv bl c s)
def frB (bv bl : Bytes → Bool) : ClauseG → SS → SS
  | .mk _ names b, s => frT (addL bv names) bl b s
end
theorem start_has1 (bv bl : Bytes → Bool) (op : Int) (name x : Bytes) (s : SS) : hasB (startS bv bl op name s).1 x = (hasB s.1 x || (decide (op = 0) && decide (x = name) && !bv x)) := by
  simp only [startS]
  by_cases e : op = 0 ∧ bv name = false
  · rw [if_pos e, has_insS, e.1]
    by_cases ex : x = name
    · subst ex; simp [e.2]
    · simp [ex]
  · rw [if_neg e]
    by_cases e0 : op = 0
    · by_cases ex : x = name
      · subst ex
        have : bv x = true := by simpa using fun h => e ⟨e0, h⟩
        simp [this]
      · simp [ex]
    · simp [e0]
theorem start_has2 (bv bl : Bytes → Bool) (op : Int) (name x : Bytes) (s : SS) : hasB (startS bv bl op name s).2 x = (hasB s.2 x || (decide (op = 12) && decide (x = name) && !bl x)) := by
  simp only [startS]
  by_cases e : op = 12 ∧ bl name = false
  · rw [if_pos e, has_insS, e.1]
    by_cases ex : x = name
    · subst ex; simp [e.2]
    · simp [ex]
  · rw [if_neg e]
    by_cases e0 : op = 12
    · by_cases ex : x = name
      · subst ex
        have : bl x = true := by simpa using fun h => e ⟨e0, h⟩
        simp [this]
      · simp [ex]
    · simp [e0]
theorem start_len (bv bl : Bytes → Bool) (op : Int) (name : Bytes) (s : SS) : (startS bv bl op name s).1.length ≤ s.1.length + 1 ∧ (startS bv bl op name s).2.length ≤ s.2.length + 1 := by
  have h1 := insS_len s.1 name
  have h2 := insS_len s.2 name
  simp only [startS]
  constructor <;> split <;> omega
mutual
theorem frT_has1 : ∀ (t : TermG) (bv bl : Bytes → Bool) (x : Bytes) (s : SS), hasB (frT bv bl t s).1 x = (hasB s.1 x || (fvT x t && !bv x))
  | .mk op n name ty ha args hc cls, bv, bl, x, s => by
    rw [frT, fvT, frC_has1 cls, frA_has1 args 0, start_has1]
    cases hasB s.1 x <;> cases decide (op = 0) <;> cases decide (x = name) <;> cases fvA x op name 0 args <;> cases fvC x cls <;> cases bv x <;> rfl
theorem frA_has1 : ∀ (l : List TermG) (k : Nat) (bv bl : Bytes → Bool) (op : Int) (name x : Bytes) (s : SS), hasB (frA bv bl op name k l s).1 x = (hasB s.1 x || (fvA x op name k l && !bv x))
  | [], k, bv, bl, op, name, x, s => by rw [frA, fvA]; simp
  | a :: r, k, bv, bl, op, name, x, s => by
    rw [frA, fvA, frA_has1 r (k + 1), frT_has1 a]
    have e : argV bv op name k x = ((decide (op = 8) && (decide (k = 1) && decide (x = name))) || bv x) := by
      simp only [argV]
      by_cases e1 : op = 8 ∧ k = 1
      · rw [if_pos e1]; simp [addP, e1.1, e1.2]
      · rw [if_neg e1]
        by_cases e2 : op = 8
        · have : k ≠ 1 := fun h => e1 ⟨e2, h⟩
          simp [this]
        · simp [e2]
    rw [e]
    cases hasB s.1 x <;> cases fvT x a <;> cases fvA x op name (k + 1) r <;> cases bv x <;> cases (decide (op = 8) && (decide (k = 1) && decide (x = name))) <;> rfl
theorem frC_has1 : ∀ (l : List ClauseG) (bv bl : Bytes → Bool) (x : Bytes) (s : SS), hasB (frC bv bl l s).1 x = (hasB s.1 x || (fvC x l && !bv x))
  | [], bv, bl, x, s => by rw [frC, fvC]; simp
  | c :: r, bv, bl, x, s => by
    rw [frC, fvC, frC_has1 r, frB_has1 c]
    cases hasB s.1 x <;> cases fvB x c <;> cases fvC x r <;> cases bv x <;> rfl
theorem frB_has1 : ∀ (c : ClauseG) (bv bl : Bytes → Bool) (x : Bytes) (s : SS), hasB (frB bv bl c s).1 x = (hasB s.1 x || (fvB x c && !bv x))
  | .mk hn names b, bv, bl, x, s => by
    rw [frB, fvB, frT_has1 b]
    simp only [addL]
    cases hasB s.1 x <;> cases fvT x b <;> cases hasB names x <;> cases bv x <;> rfl
end
mutual
theorem frT_has2 : ∀ (t : TermG) (bv bl : Bytes → Bool) (x : Bytes) (s : SS), hasB (frT bv bl t s).2 x = (hasB s.2 x || (flT x t && !bl x))
  | .mk op n name ty ha args hc cls, bv, bl, x, s => by
    rw [frT, flT, frC_has2 cls, frA_has2 args 0, start_has2]
    cases hasB s.2 x <;> cases decide (op = 12) <;> cases decide (x = name) <;> cases flA x op name 0 args <;> cases flC x cls <;> cases bl x <;> rfl
theorem frA_has2 : ∀ (l : List TermG) (k : Nat) (bv bl : Bytes → Bool) (op : Int) (name x : Bytes) (s : SS), hasB (frA bv bl op name k l s).2 x = (hasB s.2 x || (flA x op name k l && !bl x))
  | [], k, bv, bl, op, name, x, s => by rw [frA, flA]; simp
  | a :: r, k, bv, bl, op, name, x, s => by
    rw [frA, flA, frA_has2 r (k + 1), frT_has2 a]
    have e : argL0 bl op name k x = ((decide (op = 11) && (decide (k = 0) && decide (x = name))) || bl x) := by
      simp only [argL0]
      by_cases e1 : op = 11 ∧ k = 0
      · rw [if_pos e1]; simp [addP, e1.1, e1.2]
      · rw [if_neg e1]
        by_cases e2 : op = 11
        · have : k ≠ 0 := fun h => e1 ⟨e2, h⟩
          simp [this]
        · simp [e2]
    rw [e]
    cases hasB s.2 x <;> cases flT x a <;> cases flA x op name (k + 1) r <;> cases bl x <;> cases (decide (op = 11) && (decide (k = 0) && decide (x = name))) <;> rfl
theorem frC_has2 : ∀ (l : List ClauseG) (bv bl : Bytes → Bool) (x : Bytes) (s : SS), hasB (frC bv bl l s).2 x = (hasB s.2 x || (flC x l && !bl x))
  | [], bv, bl, x, s => by rw [frC, flC]; simp
  | c :: r, bv, bl, x, s => by
    rw [frC, flC, frC_has2 r, frB_has2 c]
    cases hasB s.2 x <;> cases flB x c <;> cases flC x r <;> cases bl x <;> rfl
theorem frB_has2 : ∀ (c : ClauseG) (bv bl : Bytes → Bool) (x : Bytes) (s : SS), hasB (frB bv bl c s).2 x = (hasB s.2 x || (flB x c && !bl x))
  | .mk hn names b, bv, bl, x, s => by rw [frB, flB, frT_has2 b]
end
mutual
theorem frT_len : ∀ (t : TermG) (bv bl : Bytes → Bool) (s : SS), (frT bv bl t s).1.length ≤ s.1.length + nodesT t ∧ (frT bv bl t s).2.length ≤ s.2.length + nodesT t
  | .mk op n name ty ha args hc cls, bv, bl, s => by
    rw [frT, nodesT]
    have h1 := frC_len cls bv bl (frA bv bl op name 0 args (startS bv bl op name s))
    have h2 := frA_len args 0 bv bl op name (startS bv bl op name s)
    have h3 := start_len bv bl op name s
    omega
theorem frA_len : ∀ (l : List TermG) (k : Nat) (bv bl : Bytes → Bool) (op : Int) (name : Bytes) (s : SS), (frA bv bl op name k l s).1.length ≤ s.1.length + nodesA l ∧ (frA bv bl op name k l s).2.length ≤ s.2.length + nodesA l
  | [], k, bv, bl, op, name, s => by rw [frA]; omega
  | a :: r, k, bv, bl, op, name, s => by
    rw [frA, nodesA]
    have h1 := frA_len r (k + 1) bv bl op name (frT (argV bv op name k) (argL0 bl op name k) a s)
    have h2 := frT_len a (argV bv op name k) (argL0 bl op name k) s
    omega
theorem frC_len : ∀ (l : List ClauseG) (bv bl : Bytes → Bool) (s : SS), (frC bv bl l s).1.length ≤ s.1.length + nodesC l ∧ (frC bv bl l s).2.length ≤ s.2.length + nodesC l
  | [], bv, bl, s => by rw [frC]; omega
  | c :: r, bv, bl, s => by
    rw [frC, nodesC]
    have h1 := frC_len r bv bl (frB bv bl c s)
    have h2 := frB_len c bv bl s
    omega
theorem frB_len : ∀ (c : ClauseG) (bv bl : Bytes → Bool) (s : SS), (frB bv bl c s).1.length ≤ s.1.length + nodesB c ∧ (frB bv bl c s).2.length ≤ s.2.length + nodesB c
  | .mk hn names b, bv, bl, s => by rw [frB, nodesB]; exact frT_len b _ _ _
end
end Go.Proofs.Ytppoacgeiooppaa
