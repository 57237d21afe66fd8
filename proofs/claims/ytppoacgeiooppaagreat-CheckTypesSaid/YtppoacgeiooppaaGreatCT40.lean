/- Free variables and labels, in plain words: validity and types depend on them alone. -/
import Derived.Test.YtppoacgeiooppaaGreatCT19
set_option linter.unusedSimpArgs false
set_option linter.unusedVariables false
set_option maxRecDepth 20000
set_option maxHeartbeats 4000000
namespace Go.Proofs.YtppoacgeiooppaaGreat
open Go.AL

mutual
def fvT (x : Bytes) : TermG → Bool
  | .mk op n name ty ha args hc cls => (decide (op = 0) && decide (x = name)) || (fvA x op name 0 args || fvC x cls)
def fvA (x : Bytes) (op : Int) (name : Bytes) (k : Nat) : List TermG → Bool
  | [] => false
  | a :: r => (fvT x a && !(decide (op = 8) && (decide (k = 1) && decide (x = name)))) || fvA x op name (k + 1) r
def fvC (x : Bytes) : List ClauseG → Bool
  | [] => false
  | c :: r => fvB x c || fvC x r
def fvB (x : Bytes) : ClauseG → Bool
  | .mk _ names b => fvT x b && !hasB names x
end
mutual
def flT (x : Bytes) : TermG → Bool
  | .mk op n name ty ha args hc cls => (decide (op = 12) && decide (x = name)) || (flA x op name 0 args || flC x cls)
def flA (x : Bytes) (op : Int) (name : Bytes) (k : Nat) : List TermG → Bool
  | [] => false
  | a :: r => (flT x a && !(decide (op = 11) && (decide (k = 0) && decide (x = name)))) || flA x op name (k + 1) r
def flC (x : Bytes) : List ClauseG → Bool
  | [] => false
  | c :: r => flB x c || flC x r
def flB (x : Bytes) : ClauseG → Bool
  | .mk _ _ b => flT x b
end
theorem valid_cls {ds : List DeclG} {pf : List Nat} {V L : Bytes → Bool} {t : TermG} (h : nodeB ds pf V L t = true) (hne : t.cls ≠ []) : clsNames (xtorsOf ds t.ty) t.cls = true ∧ t.op ≠ 8 ∧ t.op ≠ 11 ∧ 1 ≤ t.ty ∧ t.ty ≤ ds.length := by
  by_cases h5 : t.op = 5
  · rw [node_5 h5, Bool.and_eq_true, Bool.and_eq_true] at h
    obtain ⟨h1, h2⟩ := data_ty h.2.1
    exact ⟨h.2.2, by omega, by omega, by omega, h2⟩
  · by_cases h7 : t.op = 7
    · rw [node_7 h7, Bool.and_eq_true, Bool.and_eq_true] at h
      obtain ⟨h1, h2⟩ := data_ty h.2.1
      exact ⟨h.2.2, by omega, by omega, by omega, h2⟩
    · exact absurd (node_nocls h5 h7 h) hne
theorem nodeB_congr {ds : List DeclG} {pf : List Nat} {V L V' L' : Bytes → Bool} {t : TermG} (h1 : t.op = 0 → V t.name = V' t.name) (h2 : t.op = 12 → L t.name = L' t.name) : nodeB ds pf V L t = nodeB ds pf V' L' t := by
  simp only [nodeB]
  by_cases e0 : t.op = 0
  · simp only [if_pos e0, h1 e0]
  · simp only [if_neg e0]
    by_cases e12 : t.op = 12
    · simp only [if_pos e12, h2 e12]
    · simp only [if_neg e12]
section
variable {ds : List DeclG} {pf : List Nat}
theorem argV_congr {V V' : Bytes → Bool} {op : Int} {name x : Bytes} {k : Nat} (h : ¬ (op = 8 ∧ k = 1 ∧ x = name) → V x = V' x) : argV V op name k x = argV V' op name k x := by
  simp only [argV]
  by_cases e : op = 8 ∧ k = 1
  · simp only [if_pos e, addP]
    by_cases ex : x = name
    · simp [ex]
    · simp [ex, h (fun hh => ex hh.2.2)]
  · simp only [if_neg e]; exact h (fun hh => e ⟨hh.1, hh.2.1⟩)
theorem argL_congr {V V' : Bytes → Bool} {op : Int} {name x : Bytes} (h : ¬ (op = 11 ∧ x = name) → V x = V' x) : argL V op name x = argL V' op name x := by
  simp only [argL]
  by_cases e : op = 11
  · simp only [if_pos e, addP]
    by_cases ex : x = name
    · simp [ex]
    · simp [ex, h (fun hh => ex hh.2)]
  · simp only [if_neg e]; exact h (fun hh => e hh.1)
mutual
theorem validT_congr : ∀ (t : TermG) {V L V' L' : Bytes → Bool}, (∀ x, fvT x t = true → V x = V' x) → (∀ x, flT x t = true → L x = L' x) → validT ds pf V L t = validT ds pf V' L' t
  | .mk op n name ty ha args hc cls, V, L, V', L', h1, h2 => by
    rw [validT, validT]
    rw [nodeB_congr (V' := V') (L' := L') (fun e => h1 name (by have e : op = 0 := e; rw [fvT]; simp [e])) (fun e => h2 name (by have e : op = 12 := e; rw [flT]; simp [e]))]
    rw [validA_congr args 0 (V' := V') (L' := L') (fun x h => h1 x (by rw [fvT, h]; simp)) (fun x h => h2 x (by rw [flT, h]; simp))]
    rw [validC_congr cls (V' := V') (L' := L') (fun x h => h1 x (by rw [fvT, h]; simp)) (fun x h => h2 x (by rw [flT, h]; simp))]
theorem validA_congr : ∀ (l : List TermG) (k : Nat) {op : Int} {name : Bytes} {V L V' L' : Bytes → Bool}, (∀ x, fvA x op name k l = true → V x = V' x) → (∀ x, flA x op name k l = true → L x = L' x) → validA ds pf V L op name k l = validA ds pf V' L' op name k l
  | [], k, op, name, V, L, V', L', h1, h2 => by rw [validA, validA]
  | a :: r, k, op, name, V, L, V', L', h1, h2 => by
    rw [validA, validA]
    rw [validT_congr a (V' := argV V' op name k) (L' := argL L' op name)
      (fun x h => argV_congr fun e => h1 x (by
        rw [fvA, h]
        have : (decide (op = 8) && (decide (k = 1) && decide (x = name))) = false := by
          cases e1 : (decide (op = 8) && (decide (k = 1) && decide (x = name))) with
          | false => rfl
          | true => simp only [Bool.and_eq_true, decide_eq_true_eq] at e1; exact absurd e1 e
        rw [this]; rfl))
      (fun x h => argL_congr fun e => h2 x (by
        rw [flA, h]
        have : (decide (op = 11) && (decide (k = 0) && decide (x = name))) = false := by
          cases e1 : (decide (op = 11) && (decide (k = 0) && decide (x = name))) with
          | false => rfl
          | true => simp only [Bool.and_eq_true, decide_eq_true_eq] at e1; exact absurd ⟨e1.1, e1.2.2⟩ e
        rw [this]; rfl))]
    rw [validA_congr r (k + 1) (V' := V') (L' := L') (fun x h => h1 x (by rw [fvA, h]; simp)) (fun x h => h2 x (by rw [flA, h]; simp))]
theorem validC_congr : ∀ (l : List ClauseG) {V L V' L' : Bytes → Bool}, (∀ x, fvC x l = true → V x = V' x) → (∀ x, flC x l = true → L x = L' x) → validC ds pf V L l = validC ds pf V' L' l
  | [], V, L, V', L', h1, h2 => by rw [validC, validC]
  | c :: r, V, L, V', L', h1, h2 => by
    rw [validC, validC]
    rw [validB1_congr c (V' := V') (L' := L') (fun x h => h1 x (by rw [fvC, h]; simp)) (fun x h => h2 x (by rw [flC, h]; simp))]
    rw [validC_congr r (V' := V') (L' := L') (fun x h => h1 x (by rw [fvC, h]; simp)) (fun x h => h2 x (by rw [flC, h]; simp))]
theorem validB1_congr : ∀ (c : ClauseG) {V L V' L' : Bytes → Bool}, (∀ x, fvB x c = true → V x = V' x) → (∀ x, flB x c = true → L x = L' x) → validB1 ds pf V L c = validB1 ds pf V' L' c
  | .mk hn names b, V, L, V', L', h1, h2 => by
    rw [validB1, validB1]
    rw [validT_congr b (V' := addL V' names) (L' := L')
      (fun x h => by
        simp only [addL]
        cases e : hasB names x with
        | true => rfl
        | false => rw [h1 x (by rw [fvB, h, e]; rfl)])
      (fun x h => h2 x (by rw [flB, h]))]
end
theorem setE_congr {E E' : Bytes → Option Int} {s x : Bytes} {t : Int} (h : x ≠ s → E x = E' x) : setE E s t x = setE E' s t x := by
  simp only [setE]
  by_cases e : x = s
  · simp [e]
  · simp [e, h e]
theorem argE_congr {E E' : Bytes → Option Int} {op ty : Int} {name x : Bytes} {k : Nat} (h : ¬ (op = 8 ∧ k = 1 ∧ x = name) → E x = E' x) : argE E op name ty k x = argE E' op name ty k x := by
  simp only [argE]
  by_cases e : op = 8 ∧ k = 1
  · simp only [if_pos e]; exact setE_congr fun hx => h (fun hh => hx hh.2.2)
  · simp only [if_neg e]; exact h (fun hh => e ⟨hh.1, hh.2.1⟩)
theorem argK_congr {E E' : Bytes → Option Int} {op ty : Int} {name x : Bytes} (h : ¬ (op = 11 ∧ x = name) → E x = E' x) : argK E op name ty x = argK E' op name ty x := by
  simp only [argK]
  by_cases e : op = 11
  · simp only [if_pos e]; exact setE_congr fun hx => h (fun hh => hx hh.2)
  · simp only [if_neg e]; exact h (fun hh => e hh.1)
theorem bindE_congr : ∀ (names : List Bytes) (ts : List Int) {E E' : Bytes → Option Int} {x : Bytes}, (hasB (names.take ts.length) x = false → E x = E' x) → bindE E names ts x = bindE E' names ts x
  | [], ts, E, E', x, h => by rw [bindE_nil, bindE_nil]; exact h (by simp [hasB])
  | s :: r, [], E, E', x, h => by
    rw [bindE, bindE]
    · exact h (by simp [hasB])
    · intro s r t q h1 h2; cases h2
    · intro s r t q h1 h2; cases h2
  | s :: r, t :: q, E, E', x, h => by
    rw [bindE, bindE]
    refine bindE_congr r q fun hr => setE_congr fun hx => h ?_
    rw [List.length_cons, List.take_succ_cons]
    simp only [hasB, List.any_cons] at hr ⊢
    rw [hr]; simp [hx]
theorem ruleT_congr {fs : List FunG} {E K E' K' : Bytes → Option Int} {t : TermG} {got : List Int} (h1 : t.op = 0 → E t.name = E' t.name) (h2 : t.op = 12 → K t.name = K' t.name) : ruleT ds fs E K t got = ruleT ds fs E' K' t got := by
  simp only [ruleT]
  by_cases e0 : t.op = 0
  · simp only [if_pos e0, h1 e0]
  · simp only [if_neg e0]
    by_cases e12 : t.op = 12
    · simp only [if_pos e12, h2 e12]
    · simp only [if_neg e12]
variable {fs : List FunG}
theorem valid_parts {V L : Bytes → Bool} {t : TermG} (h : validT ds pf V L t = true) : nodeB ds pf V L t = true ∧ validA ds pf V L t.op t.name 0 t.args = true ∧ validC ds pf V L t.cls = true ∧ (t.cls ≠ [] → clsNames (xtorsOf ds t.ty) t.cls = true) := by
  have hn := valid_node h
  rw [validT_eq, Bool.and_eq_true, Bool.and_eq_true] at h
  exact ⟨h.1, h.2.1, h.2.2, fun hne => (valid_cls hn hne).1⟩
mutual
theorem typeT_congr : ∀ (t : TermG) {V L : Bytes → Bool} {E K E' K' : Bytes → Option Int}, validT ds pf V L t = true → (∀ x, fvT x t = true → E x = E' x) → (∀ x, flT x t = true → K x = K' x) → typeT ds fs E K t = typeT ds fs E' K' t
  | .mk op n name ty ha args hc cls, V, L, E, K, E', K', hv, h1, h2 => by
    obtain ⟨_, hv1, hv2, hv3⟩ := valid_parts hv
    have hv1 : validA ds pf V L op name 0 args = true := hv1
    have hv2 : validC ds pf V L cls = true := hv2
    have hv3 : cls ≠ [] → clsNames (xtorsOf ds ty) cls = true := hv3
    rw [typeT, typeT]
    rw [typeA_congr args 0 (E' := E') (K' := K') hv1 (fun x h => h1 x (by rw [fvT, h]; simp)) (fun x h => h2 x (by rw [flT, h]; simp))]
    cases typeA ds fs E' K' op name ty 0 args with
    | error p => rfl
    | ok l =>
      simp only
      rw [typeC_congr cls (xtorsOf ds ty) _ (E' := E') (K' := K') hv2 hv3 (fun x h => h1 x (by rw [fvT, h]; simp)) (fun x h => h2 x (by rw [flT, h]; simp))]
      cases typeC ds fs E' K' (xtorsOf ds ty) args.length cls with
      | error p => rfl
      | ok l' =>
        simp only
        rw [ruleT_congr (E' := E') (K' := K') (fun e => h1 name (by have e : op = 0 := e; rw [fvT]; simp [e])) (fun e => h2 name (by have e : op = 12 := e; rw [flT]; simp [e]))]
theorem typeA_congr : ∀ (l : List TermG) (k : Nat) {op ty : Int} {name : Bytes} {V L : Bytes → Bool} {E K E' K' : Bytes → Option Int}, validA ds pf V L op name k l = true → (∀ x, fvA x op name k l = true → E x = E' x) → (∀ x, flA x op name k l = true → K x = K' x) → typeA ds fs E K op name ty k l = typeA ds fs E' K' op name ty k l
  | [], k, op, ty, name, V, L, E, K, E', K', hv, h1, h2 => by rw [typeA, typeA]
  | a :: r, k, op, ty, name, V, L, E, K, E', K', hv, h1, h2 => by
    rw [validA_cons, Bool.and_eq_true] at hv
    rw [typeA, typeA]
    rw [typeT_congr a (E' := argE E' op name ty k) (K' := argK K' op name ty) hv.1
      (fun x h => argE_congr fun e => h1 x (by
        rw [fvA, h]
        have : (decide (op = 8) && (decide (k = 1) && decide (x = name))) = false := by
          cases e1 : (decide (op = 8) && (decide (k = 1) && decide (x = name))) with
          | false => rfl
          | true => simp only [Bool.and_eq_true, decide_eq_true_eq] at e1; exact absurd e1 e
        rw [this]; rfl))
      (fun x h => argK_congr fun e => h2 x (by
        rw [flA, h]
        have : (decide (op = 11) && (decide (k = 0) && decide (x = name))) = false := by
          cases e1 : (decide (op = 11) && (decide (k = 0) && decide (x = name))) with
          | false => rfl
          | true => simp only [Bool.and_eq_true, decide_eq_true_eq] at e1; exact absurd ⟨e1.1, e1.2.2⟩ e
        rw [this]; rfl))]
    rw [typeA_congr r (k + 1) (E' := E') (K' := K') hv.2 (fun x h => h1 x (by rw [fvA, h]; simp)) (fun x h => h2 x (by rw [flA, h]; simp))]
theorem typeC_congr : ∀ (l : List ClauseG) (xs : List XtorG) (k : Nat) {V L : Bytes → Bool} {E K E' K' : Bytes → Option Int}, validC ds pf V L l = true → (l ≠ [] → clsNames xs l = true) → (∀ x, fvC x l = true → E x = E' x) → (∀ x, flC x l = true → K x = K' x) → typeC ds fs E K xs k l = typeC ds fs E' K' xs k l
  | [], xs, k, V, L, E, K, E', K', hv, hc, h1, h2 => by rw [typeC, typeC]
  | c :: r, [], k, V, L, E, K, E', K', hv, hc, h1, h2 => by have := hc (by simp); simp [clsNames] at this
  | c :: r, x :: xs, k, V, L, E, K, E', K', hv, hc, h1, h2 => by
    have hc' := hc (by simp)
    rw [clsNames, Bool.and_eq_true, Bool.and_eq_true, decide_eq_true_eq] at hc'
    rw [validC, Bool.and_eq_true] at hv
    rw [typeC, typeC]
    rw [typeB_congr c (x :: xs) (E' := E') (K' := K') hv.1 (by rw [List.head?_cons, Option.map_some, Option.getD_some, prods_len]; exact hc'.1.1) (fun x h => h1 x (by rw [fvC, h]; simp)) (fun x h => h2 x (by rw [flC, h]; simp))]
    rw [typeC_congr r ((x :: xs).drop 1) _ (E' := E') (K' := K') hv.2 (fun _ => hc'.2) (fun x h => h1 x (by rw [fvC, h]; simp)) (fun x h => h2 x (by rw [flC, h]; simp))]
theorem typeB_congr : ∀ (c : ClauseG) (xs : List XtorG) {V L : Bytes → Bool} {E K E' K' : Bytes → Option Int}, validB1 ds pf V L c = true → c.names.length = ((xs.head?.map prodsX).getD []).length → (∀ x, fvB x c = true → E x = E' x) → (∀ x, flB x c = true → K x = K' x) → typeB ds fs E K xs c = typeB ds fs E' K' xs c
  | .mk hn names b, xs, V, L, E, K, E', K', hv, hl, h1, h2 => by
    rw [validB1] at hv
    rw [typeB, typeB]
    have hl : names.length = ((xs.head?.map prodsX).getD []).length := hl
    rw [typeT_congr b (E' := bindE E' names ((xs.head?.map prodsX).getD [])) (K' := K') hv
      (fun x h => bindE_congr _ _ fun e => by
        rw [← hl, List.take_length] at e
        exact h1 x (by rw [fvB, h, e]; rfl))
      (fun x h => h2 x (by rw [flB, h]))]
end
end
/-! ### How many names the clauses bind -/
mutual
def nmT : TermG → Nat
  | .mk _ _ _ _ _ args _ cls => nmA args + nmC cls
def nmA : List TermG → Nat
  | [] => 0
  | a :: r => nmT a + nmA r
def nmC : List ClauseG → Nat
  | [] => 0
  | c :: r => nmB c + nmC r
def nmB : ClauseG → Nat
  | .mk _ names b => names.length + nmT b
end
theorem nmT_eq (t : TermG) : nmT t = nmA t.args + nmC t.cls := by cases t; rw [nmT]; rfl
theorem nmB_eq (c : ClauseG) : nmB c = c.names.length + nmT c.body := by cases c; rw [nmB]; rfl
theorem nmA_mem {a : TermG} : ∀ {l : List TermG}, a ∈ l → nmT a ≤ nmA l
  | [], h => by cases h
  | b :: r, h => by
    rw [nmA]
    rcases List.mem_cons.1 h with rfl | h
    · omega
    · have := nmA_mem h; omega
theorem nmC_mem {c : ClauseG} : ∀ {l : List ClauseG}, c ∈ l → nmB c ≤ nmC l
  | [], h => by cases h
  | b :: r, h => by
    rw [nmC]
    rcases List.mem_cons.1 h with rfl | h
    · omega
    · have := nmC_mem h; omega
end Go.Proofs.YtppoacgeiooppaaGreat
