/- Free variables and labels, in plain words: validity and types depend on them alone. -/
import Derived.Test.YtppoacgeiooppaaGreatCT19
import Derived.Test.YtppoacgeiooppaaGreatCT22
import Derived.Test.YtppoacgeiooppaaGreatCAL34
set_option linter.unusedSimpArgs false
set_option linter.unusedVariables false
set_option maxRecDepth 20000
set_option maxHeartbeats 4000000
namespace Go.Proofs.YtppoacgeiooppaaGreat
open Go.AL

theorem valid_cls {ds : List DeclG} {pf : List Nat} {V L : Bytes → Bool} {t : TermG} (h : nodeB ds pf V L t = true) (hne : t.cls ≠ []) : clsNames (xtorsOf ds t.ty) t.cls = true ∧ t.op ≠ 8 ∧ t.op ≠ 11 ∧ 1 ≤ t.ty ∧ t.ty ≤ ds.length := by
  by_cases h5 : t.op = 5
  · rw [node_5 h5, Bool.and_eq_true, Bool.and_eq_true] at h
    obtain ⟨h1, h2⟩ := data_ty h.2.1
    exact ⟨h.2.2, by omega, by omega, by omega, h2⟩
  · by_cases h7 : t.op = 7
    · rw [node_7 h7, Bool.and_eq_true, Bool.and_eq_true] at h
      obtain ⟨h1, h2⟩ := data_ty h.2.1
      exact ⟨h.2.2, by omega, by omega, by omega, h2⟩
    · exact absurd (node_nocls h5 h7 h) hne
section
variable {ds : List DeclG} {pf : List Nat}
variable {fs : List FunG}
theorem valid_parts {V L : Bytes → Bool} {t : TermG} (h : validT ds pf V L t = true) : nodeB ds pf V L t = true ∧ validA ds pf V L t.op t.name 0 t.args = true ∧ validC ds pf V L t.cls = true ∧ (t.cls ≠ [] → clsNames (xtorsOf ds t.ty) t.cls = true) := by
  have hn := valid_node h
  rw [validT_eq, Bool.and_eq_true, Bool.and_eq_true] at h
  exact ⟨h.1, h.2.1, h.2.2, fun hne => (valid_cls hn hne).1⟩
end
/-! ### How many names the clauses bind -/
mutual
def nmT : TermG → Nat
  | .mk _ _ _ _ _ args _ cls => nmA args + nmC cls
def nmA : List TermG → Nat
  | [] => 0
  | a :: r => nmT a + nmA r
def nmC : List ClauseG → Nat
  | [] => 0
  | c :: r => nmB c + nmC r
def nmB : ClauseG → Nat
  | .mk _ names b => names.length + nmT b
end
end Go.Proofs.YtppoacgeiooppaaGreat
/- The reference of the layer 'term': free variables and labels. -/
set_option linter.unusedSimpArgs false
set_option linter.unusedVariables false
set_option maxRecDepth 20000
set_option maxHeartbeats 4000000
namespace Go.Proofs.YtppoacgeiooppaaGreat
open Go.AL

/-! ### Ordered lists of strings -/
def ltB (a b : Bytes) : Bool := Op.bytesLess a b
def insS : List Bytes → Bytes → List Bytes
  | [], s => [s]
  | x :: r, s => if ltB x s = true then x :: insS r s else if x = s then x :: r else s :: x :: r
def cutS (s : Bytes) : List Bytes → Nat
  | [] => 0
  | x :: r => if ltB x s = true then cutS s r + 1 else 0
theorem cutS_le (s : Bytes) : ∀ l : List Bytes, cutS s l ≤ l.length
  | [] => Nat.le_refl _
  | x :: r => by
    rw [cutS, List.length_cons]
    have := cutS_le s r
    split <;> omega
theorem insS_cut (s : Bytes) : ∀ (l : List Bytes), insS l s = if l[cutS s l]? = some s then l else l.take (cutS s l) ++ [s] ++ l.drop (cutS s l)
  | [] => by simp [insS, cutS]
  | y :: r => by
    rw [insS, cutS]
    by_cases e : ltB y s = true
    · rw [if_pos e, if_pos e, List.getElem?_cons_succ, List.take_succ_cons, List.drop_succ_cons, insS_cut s r]
      by_cases h : r[cutS s r]? = some s
      · rw [if_pos h, if_pos h]
      · rw [if_neg h, if_neg h]; rfl
    · rw [if_neg e, if_neg e, List.getElem?_cons_zero, List.take_zero, List.drop_zero]
      by_cases h : y = s
      · rw [if_pos h, if_pos (by rw [h])]
      · rw [if_neg h, if_neg (by simpa using h)]; rfl
theorem insS_len (l : List Bytes) (s : Bytes) : (insS l s).length ≤ l.length + 1 := by
  rw [insS_cut]
  have := cutS_le s l
  split
  · omega
  · simp; omega
theorem has_insS (l : List Bytes) (s x : Bytes) : hasB (insS l s) x = (decide (x = s) || hasB l x) := by
  induction l with
  | nil => simp [insS, hasB]
  | cons y r ih =>
    rw [insS]
    by_cases e : ltB y s = true
    · rw [if_pos e]
      simp only [hasB, List.any_cons] at ih ⊢
      rw [ih]; cases decide (x = y) <;> simp
    · rw [if_neg e]
      by_cases h : y = s
      · rw [if_pos h, h]; simp only [hasB, List.any_cons]; cases decide (x = s) <;> simp
      · rw [if_neg h]; simp only [hasB, List.any_cons]

end Go.Proofs.YtppoacgeiooppaaGreat
