/- Free variables and labels, in plain words: validity and types depend on them alone. -/
import Derived.Test.YtppoacgeiooppaaCT19
import Derived.Test.YtppoacgeiooppaaCT22
import Derived.Test.YtppoacgeiooppaaCAL34
set_option linter.unusedSimpArgs false
set_option linter.unusedVariables false
set_option maxRecDepth 20000
set_option maxHeartbeats 4000000
namespace Go.Proofs.Ytppoacgeiooppaa
open Go.AL

mutual
def fvT (x : Bytes) : TermG → Bool
  | .mk op n name ty ha args hc cls => (decide (op = 0) && decide (x = name)) || (fvA x op name 0 args || fvC x cls)
def fvA (x : Bytes) (op : Int) (name : Bytes) (k : Nat) : List TermG → Bool
  | [] => false
  | a :: r => (fvT x a && !(decide (op = 8) && (decide (k = 1) && decide (x = name)))) || fvA x op name (k + 1) r
def fvC (x : Bytes) : List ClauseG → Bool
  | [] => false
  | c :: r => fvB x c || fvC x r
def fvB (x : Bytes) : ClauseG → Bool
  | .mk _ names b => fvT x b && !hasB names x
end
mutual
def flT (x : Bytes) : TermG → Bool
  | .mk op n name ty ha args hc cls => (decide (op = 12) && decide (x = name)) || (flA x op name 0 args || flC x cls)
def flA (x : Bytes) (op : Int) (name : Bytes) (k : Nat) : List TermG → Bool
  | [] => false
  | a :: r => (flT x a && !(decide (op = 11) && (decide (k = 0) && decide (x = name)))) || flA x op name (k + 1) r
def flC (x : Bytes) : List ClauseG → Bool
  | [] => false
  | c :: r => flB x c || flC x r
def flB (x : Bytes) : ClauseG → Bool
  | .mk _ _ b => flT x b
end
theorem valid_cls {ds : List DeclG} {pf : List Nat} {V L : Bytes → Bool} {t : TermG} (h : nodeB ds pf V L t = true) (hne : t.cls ≠ []) : clsNames (xtorsOf ds t.ty) t.cls = true ∧ t.op ≠ 8 ∧ t.op ≠ 11 ∧ 1 ≤ t.ty ∧ t.ty ≤ ds.length := by
  by_cases h5 : t.op = 5
  · rw [node_5 h5, Bool.and_eq_true, Bool.and_eq_true] at h
    obtain ⟨h1, h2⟩ := data_ty h.2.1
    exact ⟨h.2.2, by omega, by omega, by omega, h2⟩
  · by_cases h7 : t.op = 7
    · rw [node_7 h7, Bool.and_eq_true, Bool.and_eq_true] at h
      obtain ⟨h1, h2⟩ := data_ty h.2.1
      exact ⟨h.2.2, by omega, by omega, by omega, h2⟩
    · exact absurd (node_nocls h5 h7 h) hne
theorem nodeB_congr {ds : List DeclG} {pf : List Nat} {V L V' L' : Bytes → Bool} {t : TermG} (h1 : t.op = 0 → V t.name = V' t.name) (h2 : t.op = 12 → L t.name = L' t.name) : nodeB ds pf V L t = nodeB ds pf V' L' t := by
  simp only [nodeB]
  by_cases e0 : t.op = 0
  · simp only [if_pos e0, h1 e0]
  · simp only [if_neg e0]
    by_cases e12 : t.op = 12
    · simp only [if_pos e12, h2 e12]
    · simp only [if_neg e12]
section
variable {ds : List DeclG} {pf : List Nat}
theorem argV_congr {V V' : Bytes → Bool} {op : Int} {name x : Bytes} {k : Nat} (h : ¬ (op = 8 ∧ k = 1 ∧ x = name) → V x = V' x) : argV V op name k x = argV V' op name k x := by
  simp only [argV]
  by_cases e : op = 8 ∧ k = 1
  · simp only [if_pos e, addP]
    by_cases ex : x = name
    · simp [ex]
    · simp [ex, h (fun hh => ex hh.2.2)]
  · simp only [if_neg e]; exact h (fun hh => e ⟨hh.1, hh.2.1⟩)
theorem argL_congr {V V' : Bytes → Bool} {op : Int} {name x : Bytes} (h : ¬ (op = 11 ∧ x = name) → V x = V' x) : argL V op name x = argL V' op name x := by
  simp only [argL]
  by_cases e : op = 11
  · simp only [if_pos e, addP]
    by_cases ex : x = name
    · simp [ex]
    · simp [ex, h (fun hh => ex hh.2)]
  · simp only [if_neg e]; exact h (fun hh => e hh.1)
mutual
theorem validT_congr : ∀ (t : TermG) {V L V' L' : Bytes → Bool}, (∀ x, fvT x t = true → V x = V' x) → (∀ x, flT x t = true → L x = L' x) → validT ds pf V L t = validT ds pf V' L' t
  | .mk op n name ty ha args hc cls, V, L, V', L', h1, h2 => by
    rw [validT, validT]
    rw [nodeB_congr (V' := V') (L' := L') (fun e => h1 name (by have e : op = 0 := e; rw [fvT]; simp [e])) (fun e => h2 name (by have e : op = 12 := e; rw [flT]; simp [e]))]
    rw [validA_congr args 0 (V' := V') (L' := L') (fun x h => h1 x (by rw [fvT, h]; simp)) (fun x h => h2 x (by rw [flT, h]; simp))]
    rw [validC_congr cls (V' := V') (L' := L') (fun x h => h1 x (by rw [fvT, h]; simp)) (fun x h => h2 x (by rw [flT, h]; simp))]
theorem validA_congr : ∀ (l : List TermG) (k : Nat) {op : Int} {name : Bytes} {V L V' L' : Bytes → Bool}, (∀ x, fvA x op name k l = true → V x = V' x) → (∀ x, flA x op name k l = true → L x = L' x) → validA ds pf V L op name k l = validA ds pf V' L' op name k l
  | [], k, op, name, V, L, V', L', h1, h2 => by rw [validA, validA]
  | a :: r, k, op, name, V, L, V', L', h1, h2 => by
    rw [validA, validA]
    rw [validT_congr a (V' := argV V' op name k) (L' := argL L' op name)
      (fun x h => argV_congr fun e => h1 x (by
        rw [fvA, h]
        have : (decide (op = 8) && (decide (k = 1) && decide (x = name))) = false := by
          cases e1 : (decide (op = 8) && (decide (k = 1) && decide (x = name))) with
          | false => rfl
          | true => simp only [Bool.and_eq_true, decide_eq_true_eq] at e1; exact absurd e1 e
        rw [this]; rfl))
      (fun x h => argL_congr fun e => h2 x (by
        rw [flA, h]
        have : (decide (op = 11) && (decide (k = 0) && decide (x = name))) = false := by
          cases e1 : (decide (op = 11) && (decide (k = 0) && decide (x = name))) with
          | false => rfl
          | true => simp only [Bool.and_eq_true, decide_eq_true_eq] at e1; exact absurd ⟨e1.1, e1.2.2⟩ e
        rw [this]; rfl))]
    rw [validA_congr r (k + 1) (V' := V') (L' := L') (fun x h => h1 x (by rw [fvA, h]; simp)) (fun x h => h2 x (by rw [flA, h]; simp))]
theorem validC_congr : ∀ (l : List ClauseG) {V L V' L' : Bytes → Bool}, (∀ x, fvC x l = true → V x = V' x) → (∀ x, flC x l = true → L x = L' x) → validC ds pf V L l = validC ds pf V' L' l
  | [], V, L, V', L', h1, h2 => by rw [validC, validC]
  | c :: r, V, L, V', L', h1, h2 => by
    rw [validC, validC]
    rw [validB1_congr c (V' := V') (L' := L') (fun x h => h1 x (by rw [fvC, h]; simp)) (fun x h => h2 x (by rw [flC, h]; simp))]
    rw [validC_congr r (V' := V') (L' := L') (fun x h => h1 x (by rw [fvC, h]; simp)) (fun x h => h2 x (by rw [flC, h]; simp))]
theorem validB1_congr : ∀ (c : ClauseG) {V L V' L' : Bytes → Bool}, (∀ x, fvB x c = true → V x = V' x) → (∀ x, flB x c = true → L x = L' x) → validB1 ds pf V L c = validB1 ds pf V' L' c
  | .mk hn names b, V, L, V', L', h1, h2 => by
    rw [validB1, validB1]
    rw [validT_congr b (V' := addL V' names) (L' := L')
      (fun x h => by
        simp only [addL]
        cases e : hasB names x with
        | true => rfl
        | false => rw [h1 x (by rw [fvB, h, e]; rfl)])
      (fun x h => h2 x (by rw [flB, h]))]
end
variable {fs : List FunG}
theorem valid_parts {V L : Bytes → Bool} {t : TermG} (h : validT ds pf V L t = true) : nodeB ds pf V L t = true ∧ validA ds pf V L t.op t.name 0 t.args = true ∧ validC ds pf V L t.cls = true ∧ (t.cls ≠ [] → clsNames (xtorsOf ds t.ty) t.cls = true) := by
  have hn := valid_node h
  rw [validT_eq, Bool.and_eq_true, Bool.and_eq_true] at h
  exact ⟨h.1, h.2.1, h.2.2, fun hne => (valid_cls hn hne).1⟩
end
/-! ### How many names the clauses bind -/
mutual
def nmT : TermG → Nat
  | .mk _ _ _ _ _ args _ cls => nmA args + nmC cls
def nmA : List TermG → Nat
  | [] => 0
  | a :: r => nmT a + nmA r
def nmC : List ClauseG → Nat
  | [] => 0
  | c :: r => nmB c + nmC r
def nmB : ClauseG → Nat
  | .mk _ names b => names.length + nmT b
end
end Go.Proofs.Ytppoacgeiooppaa
/- The reference of the layer 'term': free variables and labels. -/
set_option linter.unusedSimpArgs false
set_option linter.unusedVariables false
set_option maxRecDepth 20000
set_option maxHeartbeats 4000000
namespace Go.Proofs.Ytppoacgeiooppaa
open Go.AL

/-! ### Ordered lists of strings -/
def ltB (a b : Bytes) : Bool := Op.bytesLess a b
def insS : List Bytes → Bytes → List Bytes
  | [], s => [s]
  | x :: r, s => if ltB x s = true then x :: insS r s else if x = s then x :: r else s :: x :: r
def cutS (s : Bytes) : List Bytes → Nat
  | [] => 0
  | x :: r => if ltB x s = true then cutS s r + 1 else 0
theorem cutS_le (s : Bytes) : ∀ l : List Bytes, cutS s l ≤ l.length
  | [] => Nat.le_refl _
  | x :: r => by
    rw [cutS, List.length_cons]
    have := cutS_le s r
    split <;> omega
theorem insS_cut (s : Bytes) : ∀ (l : List Bytes), insS l s = if l[cutS s l]? = some s then l else l.take (cutS s l) ++ [s] ++ l.drop (cutS s l)
  | [] => by simp [insS, cutS]
  | y :: r => by
    rw [insS, cutS]
    by_cases e : ltB y s = true
    · rw [if_pos e, if_pos e, List.getElem?_cons_succ, List.take_succ_cons, List.drop_succ_cons, insS_cut s r]
      by_cases h : r[cutS s r]? = some s
      · rw [if_pos h, if_pos h]
      · rw [if_neg h, if_neg h]; rfl
    · rw [if_neg e, if_neg e, List.getElem?_cons_zero, List.take_zero, List.drop_zero]
      by_cases h : y = s
      · rw [if_pos h, if_pos (by rw [h])]
      · rw [if_neg h, if_neg (by simpa using h)]; rfl
theorem insS_len (l : List Bytes) (s : Bytes) : (insS l s).length ≤ l.length + 1 := by
  rw [insS_cut]
  have := cutS_le s l
  split
  · omega
  · simp; omega
theorem has_insS (l : List Bytes) (s x : Bytes) : hasB (insS l s) x = (decide (x = s) || hasB l x) := by
  induction l with
  | nil => simp [insS, hasB]
  | cons y r ih =>
    rw [insS]
    by_cases e : ltB y s = true
    · rw [if_pos e]
      simp only [hasB, List.any_cons] at ih ⊢
      rw [ih]; cases decide (x = y) <;> simp
    · rw [if_neg e]
      by_cases h : y = s
      · rw [if_pos h, h]; simp only [hasB, List.any_cons]; cases decide (x = s) <;> simp
      · rw [if_neg h]; simp only [hasB, List.any_cons]

end Go.Proofs.Ytppoacgeiooppaa
