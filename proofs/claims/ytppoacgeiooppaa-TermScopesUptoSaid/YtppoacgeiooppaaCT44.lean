/- The law of the layer 'check': only, types. -/
import Derived.Test.YtppoacgeiooppaaCT42
import Derived.Test.YtppoacgeiooppaaCAL34
set_option linter.unusedSimpArgs false
set_option linter.unusedVariables false
set_option maxRecDepth 20000
set_option maxHeartbeats 4000000
namespace Go.Proofs.Ytppoacgeiooppaa
open Go.AL

end Go.Proofs.Ytppoacgeiooppaa
/- One type at most, and it depends on the types of the free variables and labels alone: in plain words. -/
set_option linter.unusedSimpArgs false
set_option linter.unusedVariables false
set_option maxRecDepth 20000
set_option maxHeartbeats 4000000
namespace Go.Proofs.Ytppoacgeiooppaa
open Go.AL

/-! ### What is free in a valid term is in scope -/
theorem node_var {ds : List DeclG} {pf : List Nat} {V L : Bytes → Bool} {t : TermG} (h : nodeB ds pf V L t = true) (ho : t.op = 0) : V t.name = true := by
  simp only [nodeB, if_pos ho, Bool.and_eq_true] at h; exact h.2
theorem node_goto {ds : List DeclG} {pf : List Nat} {V L : Bytes → Bool} {t : TermG} (h : nodeB ds pf V L t = true) (ho : t.op = 12) : L t.name = true ∧ t.args.length = 1 := by
  simp only [nodeB, ho] at h
  simp at h; exact ⟨h.1.2, h.1.1.1.2⟩
theorem node_label {ds : List DeclG} {pf : List Nat} {V L : Bytes → Bool} {t : TermG} (h : nodeB ds pf V L t = true) (ho : t.op = 11) : t.args.length = 1 := by
  simp only [nodeB, ho] at h
  simp at h; exact h.1.1.1.2
section
variable {ds : List DeclG} {pf : List Nat}
mutual
theorem free_valid1 : ∀ (t : TermG) {V L : Bytes → Bool} {x : Bytes}, validT ds pf V L t = true → fvT x t = true → V x = true
  | .mk op n name ty ha args hc cls, V, L, x, hv, hf => by
    obtain ⟨hn, hv1, hv2, _⟩ := valid_parts hv
    have hv1 : validA ds pf V L op name 0 args = true := hv1
    have hv2 : validC ds pf V L cls = true := hv2
    rw [fvT, Bool.or_eq_true, Bool.or_eq_true, Bool.and_eq_true, decide_eq_true_eq, decide_eq_true_eq] at hf
    rcases hf with ⟨h1, h2⟩ | h | h
    · subst h2; exact node_var hn h1
    · exact free_validA1 args 0 hv1 h
    · exact free_validC1 cls hv2 h
theorem free_validA1 : ∀ (l : List TermG) (k : Nat) {op : Int} {name : Bytes} {V L : Bytes → Bool} {x : Bytes}, validA ds pf V L op name k l = true → fvA x op name k l = true → V x = true
  | [], k, op, name, V, L, x, hv, hf => by rw [fvA] at hf; cases hf
  | a :: r, k, op, name, V, L, x, hv, hf => by
    rw [validA_cons, Bool.and_eq_true] at hv
    rw [fvA, Bool.or_eq_true, Bool.and_eq_true, Bool.not_eq_true'] at hf
    rcases hf with ⟨h1, h2⟩ | h
    · have := free_valid1 a hv.1 h1
      simp only [argV] at this
      by_cases e : op = 8 ∧ k = 1
      · rw [if_pos e, addP, Bool.or_eq_true] at this
        rcases this with h | h
        · rw [decide_eq_true e.1, decide_eq_true e.2, h] at h2; cases h2
        · exact h
      · rwa [if_neg e] at this
    · exact free_validA1 r (k + 1) hv.2 h
theorem free_validC1 : ∀ (l : List ClauseG) {V L : Bytes → Bool} {x : Bytes}, validC ds pf V L l = true → fvC x l = true → V x = true
  | [], V, L, x, hv, hf => by rw [fvC] at hf; cases hf
  | c :: r, V, L, x, hv, hf => by
    rw [validC, Bool.and_eq_true] at hv
    rw [fvC, Bool.or_eq_true] at hf
    rcases hf with h | h
    · exact free_validB1 c hv.1 h
    · exact free_validC1 r hv.2 h
theorem free_validB1 : ∀ (c : ClauseG) {V L : Bytes → Bool} {x : Bytes}, validB1 ds pf V L c = true → fvB x c = true → V x = true
  | .mk hn names b, V, L, x, hv, hf => by
    rw [validB1] at hv
    rw [fvB, Bool.and_eq_true, Bool.not_eq_true'] at hf
    have := free_valid1 b hv hf.1
    rw [addL, hf.2, Bool.false_or] at this; exact this
end
mutual
theorem free_valid2 : ∀ (t : TermG) {V L : Bytes → Bool} {x : Bytes}, validT ds pf V L t = true → flT x t = true → L x = true
  | .mk op n name ty ha args hc cls, V, L, x, hv, hf => by
    obtain ⟨hn, hv1, hv2, _⟩ := valid_parts hv
    have hv1 : validA ds pf V L op name 0 args = true := hv1
    have hv2 : validC ds pf V L cls = true := hv2
    rw [flT, Bool.or_eq_true, Bool.or_eq_true, Bool.and_eq_true, decide_eq_true_eq, decide_eq_true_eq] at hf
    rcases hf with ⟨h1, h2⟩ | h | h
    · subst h2; exact (node_goto hn h1).1
    · exact free_validA2 args 0 (fun e => .inr ⟨rfl, by have h : args.length = 1 := node_label hn e; omega⟩) hv1 h
    · exact free_validC2 cls hv2 h
theorem free_validA2 : ∀ (l : List TermG) (k : Nat) {op : Int} {name : Bytes} {V L : Bytes → Bool} {x : Bytes}, (op = 11 → l = [] ∨ (k = 0 ∧ l.length ≤ 1)) → validA ds pf V L op name k l = true → flA x op name k l = true → L x = true
  | [], k, op, name, V, L, x, hk, hv, hf => by rw [flA] at hf; cases hf
  | a :: r, k, op, name, V, L, x, hk, hv, hf => by
    rw [validA_cons, Bool.and_eq_true] at hv
    rw [flA, Bool.or_eq_true, Bool.and_eq_true, Bool.not_eq_true'] at hf
    have hk' : op = 11 → k = 0 ∧ r = [] := fun e => by
      rcases hk e with h | h
      · cases h
      · exact ⟨h.1, List.eq_nil_of_length_eq_zero (by have := h.2; simp at this; simpa using this)⟩
    rcases hf with ⟨h1, h2⟩ | h
    · have := free_valid2 a hv.1 h1
      simp only [argL] at this
      by_cases e : op = 11
      · rw [if_pos e, addP, Bool.or_eq_true] at this
        rcases this with h | h
        · rw [decide_eq_true e, decide_eq_true (hk' e).1, h] at h2; cases h2
        · exact h
      · rwa [if_neg e] at this
    · exact free_validA2 r (k + 1) (fun e => .inl (hk' e).2) hv.2 h
theorem free_validC2 : ∀ (l : List ClauseG) {V L : Bytes → Bool} {x : Bytes}, validC ds pf V L l = true → flC x l = true → L x = true
  | [], V, L, x, hv, hf => by rw [flC] at hf; cases hf
  | c :: r, V, L, x, hv, hf => by
    rw [validC, Bool.and_eq_true] at hv
    rw [flC, Bool.or_eq_true] at hf
    rcases hf with h | h
    · exact free_validB2 c hv.1 h
    · exact free_validC2 r hv.2 h
theorem free_validB2 : ∀ (c : ClauseG) {V L : Bytes → Bool} {x : Bytes}, validB1 ds pf V L c = true → flB x c = true → L x = true
  | .mk hn names b, V, L, x, hv, hf => by
    rw [validB1] at hv
    rw [flB] at hf
    exact free_valid2 b hv hf
end
end
/-! ### The free names as lists -/
def fvL (t : TermG) : List Bytes := (frT (fun _ => false) (fun _ => false) t ([], [])).1
def flL (t : TermG) : List Bytes := (frT (fun _ => false) (fun _ => false) t ([], [])).2
theorem has_fvL (t : TermG) (x : Bytes) : hasB (fvL t) x = fvT x t := by rw [fvL, frT_has1]; simp [hasB]
theorem has_flL (t : TermG) (x : Bytes) : hasB (flL t) x = flT x t := by rw [flL, frT_has2]; simp [hasB]
/-! ### The let that binds a variable to the term -/
end Go.Proofs.Ytppoacgeiooppaa
