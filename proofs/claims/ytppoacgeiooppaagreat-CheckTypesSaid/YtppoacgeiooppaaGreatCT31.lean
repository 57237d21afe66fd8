/- The reference of the layer 'check': the subterms with their scopes, in plain words. -/
import Derived.Test.YtppoacgeiooppaaGreatCT30
import Derived.Test.YtppoacgeiooppaaGreatCT40
set_option linter.unusedSimpArgs false
set_option linter.unusedVariables false
set_option maxRecDepth 20000
set_option maxHeartbeats 4000000
namespace Go.Proofs.YtppoacgeiooppaaGreat
open Go.AL

abbrev ScP := List ParamG × List ParamG
def argS (s : ScP) (t : TermG) (k : Nat) : ScP := (if t.op = 8 ∧ k = 1 then s.1 ++ [⟨t.name, t.ty⟩] else s.1, if t.op = 11 then s.2 ++ [⟨t.name, t.ty⟩] else s.2)
def clsS (ds : List DeclG) (s : ScP) (t : TermG) (k : Nat) : ScP := (s.1 ++ zipP ((t.cls[k]?.map ClauseG.names).getD []) (((xtorsOf ds t.ty)[k]?.map prodsX).getD []), s.2)
def argsS (s : ScP) (t : TermG) (n : Nat) : List ScP := (List.range n).map (argS s t)
def clssS (ds : List DeclG) (s : ScP) (t : TermG) (n : Nat) : List ScP := (List.range n).map (clsS ds s t)
def kidsS (ds : List DeclG) (s : ScP) (t : TermG) : List ScP := argsS s t t.args.length ++ clssS ds s t t.cls.length
theorem argsS_succ (s : ScP) (t : TermG) (n : Nat) : argsS s t (n + 1) = argsS s t n ++ [argS s t n] := by simp [argsS, List.range_succ]
theorem clssS_succ (ds : List DeclG) (s : ScP) (t : TermG) (n : Nat) : clssS ds s t (n + 1) = clssS ds s t n ++ [clsS ds s t n] := by simp [clssS, List.range_succ]
theorem argsS_len (s : ScP) (t : TermG) (n : Nat) : (argsS s t n).length = n := by simp [argsS]
theorem clssS_len (ds : List DeclG) (s : ScP) (t : TermG) (n : Nat) : (clssS ds s t n).length = n := by simp [clssS]
theorem kidsS_len (ds : List DeclG) (s : ScP) (t : TermG) : (kidsS ds s t).length = (kids t).length := by simp [kidsS, kids, argsS_len, clssS_len]

/-! ### The results of the subterms -/
def resL (k : Nat) : List (Except (List Int) Int) → Except (List Int) (List Int)
  | [] => .ok []
  | .error p :: _ => .error ((k : Int) :: p)
  | .ok n :: r => match resL (k + 1) r with
    | .error p => .error p
    | .ok l => .ok (n :: l)
theorem resL_append : ∀ (a b : List (Except (List Int) Int)) (k : Nat), resL k (a ++ b) = match resL k a with
    | .error p => .error p
    | .ok l => match resL (k + a.length) b with
      | .error p => .error p
      | .ok l' => .ok (l ++ l')
  | [], b, k => by
    rw [List.nil_append, resL, List.length_nil, Nat.add_zero]
    simp only [List.nil_append]
    cases resL k b <;> rfl
  | .error p :: a, b, k => by rw [List.cons_append, resL, resL]
  | .ok n :: a, b, k => by
    rw [List.cons_append, resL, resL, resL_append a b (k + 1), List.length_cons, show k + 1 + a.length = k + (a.length + 1) by omega]
    cases resL (k + 1) a with
    | error p => rfl
    | ok l =>
      simp only
      cases resL (k + (a.length + 1)) b <;> rfl
theorem resL_ok : ∀ {l : List (Except (List Int) Int)} {k : Nat} {g : List Int}, resL k l = .ok g → g.length = l.length
  | [], _, _, h => by rw [resL] at h; injection h with h; rw [← h]; rfl
  | .error p :: r, _, _, h => by rw [resL] at h; cases h
  | .ok n :: r, k, g, h => by
    rw [resL] at h
    cases e : resL (k + 1) r with
    | error p => rw [e] at h; cases h
    | ok l =>
      rw [e] at h
      injection h with h
      rw [← h, List.length_cons, List.length_cons, resL_ok e]
section
variable (ds : List DeclG) (fs : List FunG)
def listA (E K : Bytes → Option Int) (op : Int) (name : Bytes) (ty : Int) (k : Nat) : List TermG → List (Except (List Int) Int)
  | [] => []
  | a :: r => typeT ds fs (argE E op name ty k) (argK K op name ty) a :: listA E K op name ty (k + 1) r
def listC (E K : Bytes → Option Int) (xs : List XtorG) : List ClauseG → List (Except (List Int) Int)
  | [] => []
  | c :: r => typeB ds fs E K xs c :: listC E K (xs.drop 1) r
end
section
variable {ds : List DeclG} {fs : List FunG} {E K : Bytes → Option Int}
theorem typeA_L (op : Int) (name : Bytes) (ty : Int) : ∀ (l : List TermG) (k : Nat), typeA ds fs E K op name ty k l = resL k (listA ds fs E K op name ty k l)
  | [], k => by rw [typeA, listA, resL]
  | a :: r, k => by
    rw [typeA, listA, typeA_L op name ty r (k + 1)]
    cases typeT ds fs (argE E op name ty k) (argK K op name ty) a with
    | error p => rfl
    | ok n => simp only [resL]; cases resL (k + 1) (listA ds fs E K op name ty (k + 1) r) <;> rfl
theorem typeC_L : ∀ (l : List ClauseG) (xs : List XtorG) (k : Nat), typeC ds fs E K xs k l = resL k (listC ds fs E K xs l)
  | [], xs, k => by rw [typeC, listC, resL]
  | c :: r, xs, k => by
    rw [typeC, listC, typeC_L r (xs.drop 1) (k + 1)]
    cases typeB ds fs E K xs c with
    | error p => rfl
    | ok n => simp only [resL]; cases resL (k + 1) (listC ds fs E K (xs.drop 1) r) <;> rfl
theorem listA_len (op : Int) (name : Bytes) (ty : Int) : ∀ (l : List TermG) (k : Nat), (listA ds fs E K op name ty k l).length = l.length
  | [], k => rfl
  | a :: r, k => by rw [listA, List.length_cons, List.length_cons, listA_len op name ty r]
theorem listC_len : ∀ (l : List ClauseG) (xs : List XtorG), (listC ds fs E K xs l).length = l.length
  | [], _ => rfl
  | c :: r, xs => by rw [listC, List.length_cons, List.length_cons, listC_len r]
theorem listA_at (op : Int) (name : Bytes) (ty : Int) : ∀ (l : List TermG) (k i : Nat) {a : TermG}, l[i]? = some a → (listA ds fs E K op name ty k l)[i]? = some (typeT ds fs (argE E op name ty (k + i)) (argK K op name ty) a)
  | [], _, _, _, h => by simp at h
  | b :: r, k, 0, a, h => by simp at h; subst h; rw [listA]; rfl
  | b :: r, k, i + 1, a, h => by
    rw [List.getElem?_cons_succ] at h
    rw [listA, List.getElem?_cons_succ, listA_at op name ty r (k + 1) i h, show k + 1 + i = k + (i + 1) by omega]
theorem listC_at : ∀ (l : List ClauseG) (xs : List XtorG) (i : Nat) {c : ClauseG}, l[i]? = some c → (listC ds fs E K xs l)[i]? = some (typeT ds fs (bindE E c.names ((xs[i]?.map prodsX).getD [])) K c.body)
  | [], _, _, _, h => by simp at h
  | b :: r, xs, 0, c, h => by
    simp at h; subst h
    rw [listC, List.getElem?_cons_zero, typeB_eq]
    cases xs <;> rfl
  | b :: r, xs, i + 1, c, h => by
    rw [List.getElem?_cons_succ] at h
    rw [listC, List.getElem?_cons_succ, listC_at r (xs.drop 1) i h]
    congr 4
    rw [List.getElem?_drop, Nat.add_comm 1 i]
/-- The results of all subterms. -/
def resAll (ds : List DeclG) (fs : List FunG) (s : ScP) (t : TermG) : List (Except (List Int) Int) := listA ds fs (envP s.1) (envP s.2) t.op t.name t.ty 0 t.args ++ listC ds fs (envP s.1) (envP s.2) (xtorsOf ds t.ty) t.cls
theorem resAll_len (s : ScP) (t : TermG) : (resAll ds fs s t).length = (kids t).length := by rw [resAll, List.length_append, listA_len, listC_len, kids, List.length_append, List.length_map]
theorem typeT_all (s : ScP) (t : TermG) : typeT ds fs (envP s.1) (envP s.2) t = match resL 0 (resAll ds fs s t) with
    | .error p => .error p
    | .ok l => match ruleT ds fs (envP s.1) (envP s.2) t l with
      | some r => .ok r
      | none => .error [] := by
  rw [typeT_eq, resAll, resL_append, typeA_L, typeC_L, listA_len, Nat.zero_add]
  cases resL 0 (listA ds fs (envP s.1) (envP s.2) t.op t.name t.ty 0 t.args) with
  | error p => rfl
  | ok l =>
    simp only
    cases resL t.args.length (listC ds fs (envP s.1) (envP s.2) (xtorsOf ds t.ty) t.cls) with
    | error p => rfl
    | ok l' => rfl
theorem argS_env (s : ScP) (t : TermG) (k : Nat) : envP (argS s t k).1 = argE (envP s.1) t.op t.name t.ty k ∧ envP (argS s t k).2 = argK (envP s.2) t.op t.name t.ty := by
  constructor
  · simp only [argS, argE]
    by_cases h : t.op = 8 ∧ k = 1
    · rw [if_pos h, if_pos h, envP_snoc]
    · rw [if_neg h, if_neg h]
  · simp only [argS, argK]
    by_cases h : t.op = 11
    · rw [if_pos h, if_pos h, envP_snoc]
    · rw [if_neg h, if_neg h]
theorem clsS_env (s : ScP) (t : TermG) (k : Nat) {c : ClauseG} (hc : t.cls[k]? = some c) : envP (clsS ds s t k).1 = bindE (envP s.1) c.names (((xtorsOf ds t.ty)[k]?.map prodsX).getD []) := by
  rw [clsS, hc, envP_append, zipP_bind]; rfl
theorem kids_at {t x : TermG} {k : Nat} (h : (kids t)[k]? = some x) : (k < t.args.length ∧ t.args[k]? = some x) ∨ (t.args.length ≤ k ∧ ∃ c, t.cls[k - t.args.length]? = some c ∧ c.body = x) := by
  rw [kids] at h
  rcases Nat.lt_or_ge k t.args.length with hk | hk
  · rw [List.getElem?_append_left hk] at h; exact .inl ⟨hk, h⟩
  · rw [List.getElem?_append_right hk, List.getElem?_map] at h
    cases e : t.cls[k - t.args.length]? with
    | none => rw [e] at h; cases h
    | some c => rw [e] at h; exact .inr ⟨hk, c, rfl, by simpa using h⟩
theorem kidsS_at {s : ScP} {t x : TermG} {k : Nat} (h : (kids t)[k]? = some x) : (k < t.args.length ∧ t.args[k]? = some x ∧ (kidsS ds s t)[k]? = some (argS s t k)) ∨
    (t.args.length ≤ k ∧ ∃ c, t.cls[k - t.args.length]? = some c ∧ c.body = x ∧ (kidsS ds s t)[k]? = some (clsS ds s t (k - t.args.length))) := by
  rcases kids_at h with ⟨h1, h2⟩ | ⟨h1, c, h2, h3⟩
  · refine .inl ⟨h1, h2, ?_⟩
    rw [kidsS, List.getElem?_append_left (by rw [argsS_len]; exact h1), argsS, List.getElem?_map, List.getElem?_range h1]; rfl
  · refine .inr ⟨h1, c, h2, h3, ?_⟩
    have h4 : k - t.args.length < t.cls.length := by
      rcases Nat.lt_or_ge (k - t.args.length) t.cls.length with h | h
      · exact h
      · rw [List.getElem?_eq_none h] at h2; cases h2
    rw [kidsS, List.getElem?_append_right (by rw [argsS_len]; exact h1), argsS_len, clssS, List.getElem?_map, List.getElem?_range h4]; rfl
theorem resAll_at {s s' : ScP} {t x : TermG} {k : Nat} (h : (kids t)[k]? = some x) (hs : (kidsS ds s t)[k]? = some s') : (resAll ds fs s t)[k]? = some (typeT ds fs (envP s'.1) (envP s'.2) x) := by
  rcases kidsS_at (ds := ds) (s := s) h with ⟨h1, h2, h3⟩ | ⟨h1, c, h2, h3, h4⟩
  · rw [h3] at hs
    obtain rfl := Option.some.inj hs
    rw [resAll, List.getElem?_append_left (by rw [listA_len]; exact h1), listA_at _ _ _ _ _ _ h2, Nat.zero_add, (argS_env s t k).1, (argS_env s t k).2]
  · rw [h4] at hs
    obtain rfl := Option.some.inj hs
    rw [resAll, List.getElem?_append_right (by rw [listA_len]; exact h1), listA_len, listC_at _ _ _ h2, clsS_env s t _ h2, h3]; rfl
theorem resL_drop {R : List (Except (List Int) Int)} {k : Nat} {got : List Int} (h : R.take k = got.map .ok) (hk : k ≤ R.length) : resL 0 R = match resL k (R.drop k) with
    | .error p => .error p
    | .ok l => .ok (got ++ l) := by
  have go : ∀ (got : List Int) (j : Nat), resL j (got.map .ok) = .ok got := by
    intro got
    induction got with
    | nil => intro j; rfl
    | cons n r ih => intro j; rw [List.map_cons, resL, ih]
  have hl : (R.take k).length = k := by rw [List.length_take]; omega
  conv => lhs; rw [← List.take_append_drop k R, resL_append, h, go]
  rw [h, List.length_map] at hl
  simp only [List.length_map, hl, Nat.zero_add]
end
/-! ### Valid subterms -/
theorem zipP_names : ∀ (names : List Bytes) (ts : List Int), names.length = ts.length → (zipP names ts).map ParamG.name = names
  | [], [], _ => rfl
  | [], _ :: _, h => by cases h
  | _ :: _, [], h => by cases h
  | s :: r, t :: q, h => by rw [zipP, List.map_cons, zipP_names r q (by simpa using h)]
theorem validA_at {ds : List DeclG} {pf : List Nat} {V L : Bytes → Bool} (op : Int) (name : Bytes) : ∀ (l : List TermG) (k i : Nat) {a : TermG}, l[i]? = some a → validA ds pf V L op name k l = true → validT ds pf (argV V op name (k + i)) (argL L op name) a = true
  | [], _, _, _, h, _ => by simp at h
  | b :: r, k, 0, a, h, hv => by simp at h; subst h; rw [validA_cons, Bool.and_eq_true] at hv; exact hv.1
  | b :: r, k, i + 1, a, h, hv => by
    rw [List.getElem?_cons_succ] at h
    rw [validA_cons, Bool.and_eq_true] at hv
    have := validA_at op name r (k + 1) i h hv.2
    rw [show k + 1 + i = k + (i + 1) by omega] at this
    exact this
theorem valid_kid {ds : List DeclG} {pf : List Nat} {s s' : ScP} {t x : TermG} {k : Nat} (hv : validT ds pf (hasB (s.1.map ParamG.name)) (hasB (s.2.map ParamG.name)) t = true) (h : (kids t)[k]? = some x) (hs : (kidsS ds s t)[k]? = some s') :
    validT ds pf (hasB (s'.1.map ParamG.name)) (hasB (s'.2.map ParamG.name)) x = true := by
  have hn := valid_node hv
  rw [validT_eq, Bool.and_eq_true, Bool.and_eq_true] at hv
  rcases kidsS_at (ds := ds) (s := s) h with ⟨h1, h2, h3⟩ | ⟨h1, c, h2, h3, h4⟩
  · rw [h3] at hs
    obtain rfl := Option.some.inj hs
    have := validA_at _ _ _ _ _ h2 hv.2.1
    rw [Nat.zero_add] at this
    simp only [argV, argL, argS] at this ⊢
    by_cases e1 : t.op = 8 ∧ k = 1
    · have e2 : t.op ≠ 11 := by omega
      simp only [if_pos e1, if_neg e2] at this ⊢
      rw [List.map_append, List.map_cons, List.map_nil, has_snoc]; exact this
    · by_cases e2 : t.op = 11
      · simp only [if_neg e1, if_pos e2] at this ⊢
        rw [List.map_append, List.map_cons, List.map_nil, has_snoc]; exact this
      · simp only [if_neg e1, if_neg e2] at this ⊢; exact this
  · rw [h4] at hs
    obtain rfl := Option.some.inj hs
    obtain ⟨hc, _, _, ht1, ht2⟩ := valid_cls hn (by intro e; rw [e] at h2; simp at h2)
    have hlen := clsNames_len' hc
    have hlt : k - t.args.length < t.cls.length := by
      rcases Nat.lt_or_ge (k - t.args.length) t.cls.length with h | h
      · exact h
      · rw [List.getElem?_eq_none h] at h2; cases h2
    obtain ⟨xx, hx⟩ := someAt (xtorsOf ds t.ty) (k - t.args.length) (by omega)
    have hnl := clsNames_at hc hx h2
    have := validC_mem hv.2.2 c (List.mem_of_getElem? h2)
    simp only [clsS, h2, hx, Option.map_some, Option.getD_some, List.map_append]
    rw [zipP_names _ _ (by rw [prods_len]; exact hnl), has_append, ← h3]; exact this
end Go.Proofs.YtppoacgeiooppaaGreat
