/- The reference of the layer 'term': free, Free. -/
import Derived.Test.YtppoacgeiooppaaGreatCT41
set_option linter.unusedSimpArgs false
set_option linter.unusedVariables false
set_option maxRecDepth 20000
set_option maxHeartbeats 4000000
namespace Go.Proofs.YtppoacgeiooppaaGreat
open Go.AL

abbrev SS := List Bytes × List Bytes
def argL0 (L : Bytes → Bool) (op : Int) (name : Bytes) (k : Nat) : Bytes → Bool := if op = 11 ∧ k = 0 then addP L name else L
def startS (bv bl : Bytes → Bool) (op : Int) (name : Bytes) (s : SS) : SS := (if op = 0 ∧ bv name = false then insS s.1 name else s.1, if op = 12 ∧ bl name = false then insS s.2 name else s.2)
mutual
def frT (bv bl : Bytes → Bool) : TermG → SS → SS
  | .mk op n name ty ha args hc cls, s => frC bv bl cls (frA bv bl op name 0 args (startS bv bl op name s))
def frA (bv bl : Bytes → Bool) (op : Int) (name : Bytes) (k : Nat) : List TermG → SS → SS
  | [], s => s
  | a :: r, s => frA bv bl op name (k + 1) r (frT (argV bv op name k) (argL0 bl op name k) a s)
def frC (bv bl : Bytes → Bool) : List ClauseG → SS → SS
  | [], s => s
  | c :: r, s => frC bv bl r (frB bv bl c s)
def frB (bv bl : Bytes → Bool) : ClauseG → SS → SS
  | .mk _ names b, s => frT (addL bv names) bl b s
end
theorem start_len (bv bl : Bytes → Bool) (op : Int) (name : Bytes) (s : SS) : (startS bv bl op name s).1.length ≤ s.1.length + 1 ∧ (startS bv bl op name s).2.length ≤ s.2.length + 1 := by
  have h1 := insS_len s.1 name
  have h2 := insS_len s.2 name
  simp only [startS]
  constructor <;> split <;> omega
mutual
theorem frT_len : ∀ (t : TermG) (bv bl : Bytes → Bool) (s : SS), (frT bv bl t s).1.length ≤ s.1.length + nodesT t ∧ (frT bv bl t s).2.length ≤ s.2.length + nodesT t
  | .mk op n name ty ha args hc cls, bv, bl, s => by
    rw [frT, nodesT]
    have h1 := frC_len cls bv bl (frA bv bl op name 0 args (startS bv bl op name s))
    have h2 := frA_len args 0 bv bl op name (startS bv bl op name s)
    have h3 := start_len bv bl op name s
    omega
theorem frA_len : ∀ (l : List TermG) (k : Nat) (bv bl : Bytes → Bool) (op : Int) (name : Bytes) (s : SS), (frA bv bl op name k l s).1.length ≤ s.1.length + nodesA l ∧ (frA bv bl op name k l s).2.length ≤ s.2.length + nodesA l
  | [], k, bv, bl, op, name, s => by rw [frA]; omega
  | a :: r, k, bv, bl, op, name, s => by
    rw [frA, nodesA]
    have h1 := frA_len r (k + 1) bv bl op name (frT (argV bv op name k) (argL0 bl op name k) a s)
    have h2 := frT_len a (argV bv op name k) (argL0 bl op name k) s
    omega
theorem frC_len : ∀ (l : List ClauseG) (bv bl : Bytes → Bool) (s : SS), (frC bv bl l s).1.length ≤ s.1.length + nodesC l ∧ (frC bv bl l s).2.length ≤ s.2.length + nodesC l
  | [], bv, bl, s => by rw [frC]; omega
  | c :: r, bv, bl, s => by
    rw [frC, nodesC]
    have h1 := frC_len r bv bl (frB bv bl c s)
    have h2 := frB_len c bv bl s
    omega
theorem frB_len : ∀ (c : ClauseG) (bv bl : Bytes → Bool) (s : SS), (frB bv bl c s).1.length ≤ s.1.length + nodesB c ∧ (frB bv bl c s).2.length ≤ s.2.length + nodesB c
  | .mk hn names b, bv, bl, s => by rw [frB, nodesB]; exact frT_len b _ _ _
end
end Go.Proofs.YtppoacgeiooppaaGreat
