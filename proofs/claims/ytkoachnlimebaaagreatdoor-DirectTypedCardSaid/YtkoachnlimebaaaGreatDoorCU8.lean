/- The machine of direct evaluation: typed runs are not stuck. -/
import Derived.Test.YtkoachnlimebaaaGreatDoorCU4
import Derived.Test.YtkoachnlimebaaaGreatDoorCW11
import Derived.Test.YtkoachnlimebaaaGreatDoorCT19
set_option linter.unusedSimpArgs false
set_option linter.unusedVariables false
set_option maxRecDepth 20000
namespace Go.Proofs.YtkoachnlimebaaaGreatDoor
open Go.AL

section
variable (ds : List DeclG) (fs : List FunG)
mutual
inductive VT : ValG → Int → Prop where
  | int (n : Int) : VT (.int n) 0
  | con (ty n : Int) (args : List BndG) (h : hasN ds ty n = true) (hd : codataB ds ty = false) (ha : BTs args (prodsX (xtorAt ds ty n))) : VT (.con ty n args) ty
  | obj (t : TermG) (e : EnvG) (E K : Bytes → Option Int) (ty : Int) (he : ET e E K) (ht : typeT ds fs E K t = .ok ty) : VT (.obj t e) ty
inductive BT : BndG → Int → Prop where
  | val (v : ValG) (ty : Int) (h : VT v ty) : BT (.val v) ty
  | thunk (t : TermG) (e : EnvG) (E K : Bytes → Option Int) (ty : Int) (he : ET e E K) (ht : typeT ds fs E K t = .ok ty) : BT (.thunk t e) ty
inductive BTs : List BndG → List Int → Prop where
  | nil : BTs [] []
  | cons (b : BndG) (ty : Int) (l : List BndG) (r : List Int) (h : BT b ty) (hr : BTs l r) : BTs (b :: l) (ty :: r)
inductive ET : EnvG → (Bytes → Option Int) → (Bytes → Option Int) → Prop where
  | nil : ET .nil (fun _ => none) (fun _ => none)
  | var (s : Bytes) (b : BndG) (e : EnvG) (ty : Int) (E K : Bytes → Option Int) (hb : BT b ty) (he : ET e E K) : ET (.var s b e) (setE E s ty) K
  | lab (s : Bytes) (k : FrmG) (e : EnvG) (ty : Int) (E K : Bytes → Option Int) (hk : KT k ty) (he : ET e E K) : ET (.lab s k e) E (setE K s ty)
inductive KT : FrmG → Int → Prop where
  | nil : KT .nil 0
  | app (t : TermG) (e : EnvG) (got : List BndG) (k : FrmG) (E K : Bytes → Option Int) (ty T : Int) (he : ET e E K) (ht : typeT ds fs E K t = .ok T) (hg : BTs got ((typesG ds fs t).take got.length))
      (hty : (typesG ds fs t)[got.length]? = some ty) (hk : KT k T) : KT (.app t e got k) ty
  | obs (t : TermG) (e : EnvG) (got : List BndG) (k : FrmG) (hg : BTs got (prodsX (xtorAt ds t.ty t.n))) (hk : KT k (resX (xtorAt ds t.ty t.n))) : KT (.obs t e got k) t.ty
  | cas (t : TermG) (e : EnvG) (k : FrmG) (E K : Bytes → Option Int) (T : Int) (he : ET e E K) (ht : typeT ds fs E K t = .ok T) (hk : KT k T) : KT (.cas t e k) t.ty
  | tst (t : TermG) (e : EnvG) (k : FrmG) (E K : Bytes → Option Int) (T : Int) (he : ET e E K) (ht : typeT ds fs E K t = .ok T) (hk : KT k T) : KT (.tst t e k) 0
end
def TC : Ctl → Prop
  | .ev t e k => ∃ E K T, ET ds fs e E K ∧ typeT ds fs E K t = .ok T ∧ KT ds fs k T
  | .gv v k => ∃ T, VT ds fs v T ∧ KT ds fs k T
end
section
variable {ds : List DeclG} {fs : List FunG} {E K : Bytes → Option Int} {V L : Bytes → Bool}
theorem t_inv {t : TermG} {T : Int} (h : typeT ds fs E K t = .ok T) : ∃ l l', typeA ds fs E K t.op t.name t.ty 0 t.args = .ok l ∧ typeC ds fs E K (xtorsOf ds t.ty) t.args.length t.cls = .ok l' ∧ ruleT ds fs E K t (l ++ l') = some T := by
  rw [typeT_eq] at h
  split at h
  · cases h
  · rename_i l hl
    split at h
    · cases h
    · rename_i l' hl'
      split at h
      · rename_i r hr; cases h; exact ⟨l, l', hl, hl', hr⟩
      · cases h
theorem tA_at {op : Int} {name : Bytes} {ty : Int} : ∀ {args : List TermG} {k : Nat} {l : List Int}, typeA ds fs E K op name ty k args = .ok l →
    l.length = args.length ∧ ∀ (i : Nat) (a : TermG), args[i]? = some a → ∃ u, l[i]? = some u ∧ typeT ds fs (argE E op name ty (k + i)) (argK K op name ty) a = .ok u
  | [], k, l, h => by rw [typeA] at h; cases h; exact ⟨rfl, fun i a h => by simp at h⟩
  | b :: r, k, l, h => by
    rw [typeA] at h
    split at h
    · cases h
    · rename_i n hn
      split at h
      · cases h
      · rename_i q hq
        cases h
        obtain ⟨h1, h2⟩ := tA_at hq
        refine ⟨by simp [h1], fun i a ha => ?_⟩
        cases i with
        | zero => simp at ha; subst ha; exact ⟨n, rfl, hn⟩
        | succ i =>
          obtain ⟨u, h3, h4⟩ := h2 i a (by simpa using ha)
          exact ⟨u, by simpa using h3, by rw [show k + (i + 1) = k + 1 + i by omega]; exact h4⟩
theorem tC_at : ∀ {cls : List ClauseG} {xs : List XtorG} {k : Nat} {l : List Int}, typeC ds fs E K xs k cls = .ok l →
    l.length = cls.length ∧ ∀ (i : Nat) (c : ClauseG), cls[i]? = some c → ∃ u, l[i]? = some u ∧ typeT ds fs (bindE E c.names ((xs[i]?.map prodsX).getD [])) K c.body = .ok u
  | [], xs, k, l, h => by rw [typeC] at h; cases h; exact ⟨rfl, fun i a h => by simp at h⟩
  | b :: r, xs, k, l, h => by
    rw [typeC] at h
    split at h
    · cases h
    · rename_i n hn
      split at h
      · cases h
      · rename_i q hq
        cases h
        obtain ⟨h1, h2⟩ := tC_at hq
        refine ⟨by simp [h1], fun i a ha => ?_⟩
        cases i with
        | zero =>
          simp at ha; subst ha
          rw [typeB_eq] at hn
          refine ⟨n, rfl, ?_⟩
          rwa [List.head?_eq_getElem?] at hn
        | succ i =>
          obtain ⟨u, h3, h4⟩ := h2 i a (by simpa using ha)
          refine ⟨u, by simpa using h3, ?_⟩
          rw [List.getElem?_drop, Nat.add_comm] at h4
          exact h4
theorem BTs.len : ∀ {l : List BndG} {r : List Int}, BTs ds fs l r → l.length = r.length
  | [], _, h => by cases h; rfl
  | _ :: _, _, h => by cases h with | cons _ _ _ _ h hr => simp [BTs.len hr]
theorem BTs.snoc : ∀ {l : List BndG} {r : List Int} {b : BndG} {ty : Int}, BTs ds fs l r → BT ds fs b ty → BTs ds fs (l ++ [b]) (r ++ [ty])
  | [], _, b, ty, h, hb => by cases h; exact .cons _ _ _ _ hb .nil
  | _ :: _, _, b, ty, h, hb => by cases h with | cons _ _ _ _ h hr => exact .cons _ _ _ _ h (BTs.snoc hr hb)
theorem et_bind : ∀ (names : List Bytes) (l : List BndG) (r : List Int) {e : EnvG} {E : Bytes → Option Int}, BTs ds fs l r → ET ds fs e E K → ET ds fs (bindG e names l) (bindE E names r) K
  | [], l, r, e, E, _, h => by rw [bindG_nil]; cases r <;> exact h
  | s :: q, [], r, e, E, hb, h => by cases hb; exact h
  | s :: q, b :: l, r, e, E, hb, h => by
    cases hb with
    | cons _ ty _ r hb hr => rw [bindG, bindE]; exact et_bind q l r hr (.var s b e ty E K hb h)
theorem et_var : ∀ {e : EnvG} {E K : Bytes → Option Int} {x : Bytes} {ty : Int}, ET ds fs e E K → E x = some ty → ∃ b, findV e x = some b ∧ BT ds fs b ty
  | .nil, _, _, _, _, h, hx => by cases h; cases hx
  | .var s b e, _, _, x, ty, h, hx => by
    cases h with
    | var _ _ _ ty' E K hb he =>
      rw [findV]
      by_cases hs : s = x
      · subst hs
        simp [setE] at hx
        subst hx
        exact ⟨b, if_pos rfl, hb⟩
      · rw [if_neg hs]
        simp [setE, Ne.symm hs] at hx
        exact et_var he hx
  | .lab s k e, _, _, x, ty, h, hx => by
    cases h with
    | lab _ _ _ ty' E K hk he => rw [findV]; exact et_var he hx
theorem et_lab : ∀ {e : EnvG} {E K : Bytes → Option Int} {x : Bytes} {ty : Int}, ET ds fs e E K → K x = some ty → ∃ k, findL e x = some k ∧ KT ds fs k ty
  | .nil, _, _, _, _, h, hx => by cases h; cases hx
  | .var s b e, _, _, x, ty, h, hx => by
    cases h with
    | var _ _ _ ty' E K hb he => rw [findL]; exact et_lab he hx
  | .lab s k e, _, _, x, ty, h, hx => by
    cases h with
    | lab _ _ _ ty' E K hk he =>
      rw [findL]
      by_cases hs : s = x
      · subst hs
        simp [setE] at hx
        subst hx
        exact ⟨k, if_pos rfl, hk⟩
      · rw [if_neg hs]
        simp [setE, Ne.symm hs] at hx
        exact et_lab he hx
end
end Go.Proofs.YtkoachnlimebaaaGreatDoor
/- The machine of direct evaluation: each move keeps the types, and none is stuck. -/
set_option linter.unusedSimpArgs false
set_option linter.unusedVariables false
set_option maxRecDepth 20000
namespace Go.Proofs.YtkoachnlimebaaaGreatDoor
open Go.AL

/-- What a typed program gives. -/
structure ProgTy (ds : List DeclG) (fs : List FunG) : Prop where
  body : ∀ f ∈ fs, typeT ds fs (bindE (fun _ => none) (f.params.map ParamG.name) (f.params.map ParamG.ty)) (fun _ => none) f.body = .ok f.res
section
variable {ds : List DeclG} {fs : List FunG} {E K : Bytes → Option Int} {V L : Bytes → Bool}
theorem no_cls {t : TermG} (hn : nodeB ds (pfs fs) V L t = true) (h5 : t.op ≠ 5) (h7 : t.op ≠ 7) : t.cls = [] := by
  rcases op_cases hn with o | o | o | o | o | o | o | o | o | o | o | o | o <;> simp [nodeB, o] at hn <;> first | exact absurd o h5 | exact absurd o h7 | simp_all
theorem t_args {t : TermG} {T : Int} (hn : nodeB ds (pfs fs) V L t = true) (h5 : t.op ≠ 5) (h7 : t.op ≠ 7) (h : typeT ds fs E K t = .ok T) : ∃ l, l.length = t.args.length ∧ ruleT ds fs E K t l = some T ∧
    ∀ (i : Nat) (a : TermG), t.args[i]? = some a → ∃ u, l[i]? = some u ∧ typeT ds fs (argE E t.op t.name t.ty i) (argK K t.op t.name t.ty) a = .ok u := by
  obtain ⟨l, l', h1, h2, h3⟩ := t_inv h
  rw [no_cls hn h5 h7, typeC] at h2
  cases h2
  rw [List.append_nil] at h3
  obtain ⟨g1, g2⟩ := tA_at h1
  exact ⟨l, g1, h3, fun i a ha => by have := g2 i a ha; rwa [Nat.zero_add] at this⟩
theorem argE_other {t : TermG} (h : t.op ≠ 8) (i : Nat) : argE E t.op t.name t.ty i = E := by rw [argE, if_neg (fun e => h e.1)]
theorem argK_other {t : TermG} (h : t.op ≠ 11) : argK K t.op t.name t.ty = K := by rw [argK, if_neg h]
theorem app_rule {t : TermG} {T : Int} {l : List Int} (ho : isApp t) (hn : nodeB ds (pfs fs) V L t = true) (hl : l.length = t.args.length) (h : ruleT ds fs E K t l = some T) :
    (∀ (i : Nat) (ty : Int), (typesG ds fs t)[i]? = some ty → l[i]? = some ty) ∧ (t.op = 2 → T = 0) ∧ (t.op = 4 → T = t.ty) ∧ (t.op = 6 → T = resX (xtorAt ds t.ty t.n) ∧ l[(typesG ds fs t).length]? = some t.ty) ∧
      (t.op = 8 → l[1]? = some T) ∧ (t.op = 9 → ∀ f, fs[t.n.toNat]? = some f → T = f.res) := by
  rcases ho with o | o | o | o | o
  · simp only [ruleT, typesG, o] at h ⊢
    simp at h ⊢
    obtain ⟨rfl, rfl⟩ := h
    exact ⟨fun i ty h => h, rfl⟩
  · simp only [ruleT, typesG, o] at h ⊢
    simp at h ⊢
    obtain ⟨rfl, rfl⟩ := h
    exact ⟨fun i ty h => h, rfl⟩
  · simp only [ruleT, typesG, o] at h ⊢
    simp at h ⊢
    obtain ⟨rfl, rfl⟩ := h
    refine ⟨fun i ty h => ?_, rfl, ?_⟩
    · rw [List.getElem?_append_left (List.getElem?_eq_some_iff.1 h).1]; exact h
    · simp
  · simp only [ruleT, typesG, o] at h ⊢
    simp at h ⊢
    split at h
    · split at h
      · rename_i a b e; cases h; subst e
        refine ⟨fun i ty h => ?_, rfl⟩
        cases i with
        | zero => simpa using h
        | succ i => simp at h
      · cases h
    · cases h
  · simp only [ruleT, typesG, o] at h ⊢
    simp at h ⊢
    split at h
    · rename_i f hf
      split at h
      · rename_i e; cases h; subst e
        simp only [hf]
        refine ⟨fun i ty h => by simpa using h, fun g hg => by cases hg; rfl⟩
      · cases h
    · cases h
theorem perform_ty (hp : ProgTy ds fs) {t : TermG} {e : EnvG} {got : List BndG} {k : FrmG} {T : Int} (ho : isApp t) (hv : validT ds (pfs fs) V L t = true) (he : ET ds fs e E K) (ht : typeT ds fs E K t = .ok T)
    (hg : BTs ds fs got (typesG ds fs t)) (hi : t.op = 2 → ∀ b, b ∈ got → isIntB b = true) (hk : KT ds fs k T) : TC ds fs (performG fs t e got k) := by
  have hn := u_node hv
  obtain ⟨n1, n2, n3, n4⟩ := node_arity hn ho
  have hl := hg.len
  obtain ⟨l, hll, hr, ha⟩ := t_args hn (by rcases ho with o | o | o | o | o <;> omega) (by rcases ho with o | o | o | o | o <;> omega) ht
  obtain ⟨r1, r2, r4, r6, r8, r9⟩ := app_rule ho hn hll hr
  unfold performG
  rcases ho with o | o | o | o | o
  · rw [if_pos o]
    have hi := hi o
    simp [typesG, o] at hl
    match got, hl with
    | [a, b], _ =>
      have ha := hi a (by simp)
      have hb := hi b (by simp)
      match a, b, ha, hb with
      | .val (.int x), .val (.int y), _, _ => exact ⟨0, .int _, by rw [← r2 o]; exact hk⟩
  · rw [if_neg (by omega), if_pos o]
    simp [nodeB, o] at hn
    refine ⟨t.ty, .con _ _ _ hn.1.1.1.2 ?_ ?_, by rw [← r4 o]; exact hk⟩
    · have := hn.1.1.1.1; simp [dataB] at this; exact this.2
    · simpa [typesG, o] using hg
  · rw [if_neg (by omega), if_neg (by omega), if_pos o]
    have h6 := n2 o
    obtain ⟨a, haa⟩ : ∃ a, t.args[(typesG ds fs t).length]? = some a := ⟨_, List.getElem?_eq_getElem (by omega)⟩
    have hla : t.args.getLast? = some a := by rw [List.getLast?_eq_getElem?, h6, Nat.add_sub_cancel]; exact haa
    rw [hla]
    obtain ⟨u, hu, hty⟩ := ha _ _ haa
    rw [(r6 o).2] at hu
    cases hu
    rw [argE_other (by omega), argK_other (by omega)] at hty
    refine ⟨E, K, t.ty, he, hty, .obs _ _ _ _ ?_ (by rw [← (r6 o).1]; exact hk)⟩
    simpa [typesG, o] using hg
  · rw [if_neg (by omega), if_neg (by omega), if_neg (by omega), if_pos o]
    have h8 := n3 o
    obtain ⟨a, haa⟩ : ∃ a, t.args[1]? = some a := ⟨_, List.getElem?_eq_getElem (by omega)⟩
    obtain ⟨u, hu, hty⟩ := ha _ _ haa
    rw [r8 o] at hu
    cases hu
    rw [argK_other (by omega), argE, if_pos ⟨o, rfl⟩] at hty
    simp [typesG, o] at hg
    cases hg with
    | cons b _ _ _ hb hr =>
      cases hr
      simp only [argK', haa]
      exact ⟨_, K, T, .var _ _ _ _ _ _ hb he, hty, hk⟩
  · rw [if_neg (by omega), if_neg (by omega), if_neg (by omega), if_neg (by omega)]
    obtain ⟨f, hf, hfl⟩ := n4 o
    rw [hf]
    have hT := r9 o f hf
    subst hT
    have hg' : BTs ds fs got (f.params.map ParamG.ty) := by simpa [typesG, o, hf] using hg
    exact ⟨_, _, f.res, et_bind _ _ _ hg' .nil, hp.body f (List.mem_of_getElem? hf), hk⟩
theorem go_ty (hp : ProgTy ds fs) {t : TermG} {e : EnvG} {k : FrmG} {T : Int} (ho : isApp t) (hv : validT ds (pfs fs) V L t = true) (he : ET ds fs e E K) (ht : typeT ds fs E K t = .ok T) (hk : KT ds fs k T) :
    ∀ (n : Nat) (got : List BndG), got.length + n = (typesG ds fs t).length → BTs ds fs got ((typesG ds fs t).take got.length) → (t.op = 2 → ∀ b, b ∈ got → isIntB b = true) →
      TC ds fs (goG ds fs t e k got ((typesG ds fs t).drop got.length) (t.args.drop got.length))
  | 0, got, hl, hg, hi => by
    rw [List.drop_of_length_le (show (typesG ds fs t).length ≤ got.length by omega), goG]
    · refine perform_ty hp ho hv he ht ?_ hi hk
      rwa [List.take_of_length_le (by omega)] at hg
    · intro _ _ _ _ h; cases h
  | n + 1, got, hl, hg, hi => by
    have hn := u_node hv
    obtain ⟨n1, _, _, _⟩ := node_arity hn ho
    have hlt : got.length < (typesG ds fs t).length := by omega
    have hla : got.length < t.args.length := by omega
    obtain ⟨l, hll, hr, ha⟩ := t_args hn (by rcases ho with o | o | o | o | o <;> omega) (by rcases ho with o | o | o | o | o <;> omega) ht
    obtain ⟨r1, _⟩ := app_rule ho hn hll hr
    obtain ⟨u, hu, hty⟩ := ha _ _ (List.getElem?_eq_getElem hla)
    rw [r1 _ _ (List.getElem?_eq_getElem hlt)] at hu
    cases hu
    have hE : argE E t.op t.name t.ty got.length = E := by
      by_cases h8 : t.op = 8
      · have : (typesG ds fs t).length = 1 := by simp [typesG, h8]
        rw [argE, if_neg (by omega)]
      · exact argE_other h8 _
    rw [hE, argK_other (by rcases ho with o | o | o | o | o <;> omega)] at hty
    rw [List.drop_eq_getElem_cons hlt, List.drop_eq_getElem_cons hla, goG]
    split
    · exact ⟨E, K, _, he, hty, .app _ _ _ _ E K _ T he ht hg (List.getElem?_eq_getElem hlt) hk⟩
    · rename_i hpl
      have hth : BT ds fs (.thunk t.args[got.length] e) (typesG ds fs t)[got.length] := .thunk _ _ E K _ he hty
      have := go_ty hp ho hv he ht hk n (got ++ [.thunk t.args[got.length] e]) (by simp; omega) (by
        have h1 := hg.snoc hth
        rw [List.length_append, List.length_cons, List.length_nil, Nat.zero_add, List.take_add_one, List.getElem?_eq_getElem hlt]
        exact h1) (fun o2 => by
        exfalso
        apply hpl
        have : (typesG ds fs t)[got.length] = 0 := by
          have hz : ∀ x ∈ typesG ds fs t, x = 0 := by simp [typesG, o2]
          exact hz _ (List.getElem_mem hlt)
        rw [this]; simp [plusB])
      rw [List.length_append] at this
      exact this
theorem apply_ty (hp : ProgTy ds fs) {t : TermG} {e : EnvG} {got : List BndG} {k : FrmG} {T : Int} (ho : isApp t) (hv : validT ds (pfs fs) V L t = true) (he : ET ds fs e E K) (ht : typeT ds fs E K t = .ok T) (hk : KT ds fs k T)
    (hg : BTs ds fs got ((typesG ds fs t).take got.length)) (hi : t.op = 2 → ∀ b, b ∈ got → isIntB b = true) (hl : got.length ≤ (typesG ds fs t).length) : TC ds fs (applyG ds fs t e got k) :=
  go_ty hp ho hv he ht hk ((typesG ds fs t).length - got.length) got (by omega) hg hi
end
end Go.Proofs.YtkoachnlimebaaaGreatDoor
/- The machine of direct evaluation: typed machines go on, typed. -/
set_option linter.unusedSimpArgs false
set_option linter.unusedVariables false
set_option maxRecDepth 20000
namespace Go.Proofs.YtkoachnlimebaaaGreatDoor
open Go.AL

def TO (ds : List DeclG) (fs : List FunG) : OutG → Prop
  | .go c => TC ds fs c
  | .emit _ c => TC ds fs c
  | .fin how _ => how = 0
section
variable {ds : List DeclG} {fs : List FunG} {E K : Bytes → Option Int} {V L : Bytes → Bool}
/-- The first argument of a node that goes ahead. -/
theorem head_ty {t : TermG} {T : Int} (ht : typeT ds fs E K t = .ok T) : ∃ l l', l.length = t.args.length ∧ l'.length = t.cls.length ∧ ruleT ds fs E K t (l ++ l') = some T ∧
    (∀ (i : Nat) (a : TermG), t.args[i]? = some a → ∃ u, l[i]? = some u ∧ typeT ds fs (argE E t.op t.name t.ty i) (argK K t.op t.name t.ty) a = .ok u) ∧
    ∀ (i : Nat) (c : ClauseG), t.cls[i]? = some c → ∃ u, l'[i]? = some u ∧ typeT ds fs (bindE E c.names (((xtorsOf ds t.ty)[i]?.map prodsX).getD [])) K c.body = .ok u := by
  obtain ⟨l, l', h1, h2, h3⟩ := t_inv ht
  obtain ⟨g1, g2⟩ := tA_at h1
  obtain ⟨g3, g4⟩ := tC_at h2
  exact ⟨l, l', g1, g3, h3, fun i a ha => by have := g2 i a ha; rwa [Nat.zero_add] at this, g4⟩
theorem arg_ty {t : TermG} {i : Nat} {a : TermG} (h : t.args[i]? = some a) : argK' t i = a := by rw [argK', h]; rfl
theorem eval_ty (hp : ProgTy ds fs) {t : TermG} {e : EnvG} {k : FrmG} (ho : OkC ds fs (.ev t e k)) (h : TC ds fs (.ev t e k)) : TC ds fs (evalG ds fs t e k) := by
  obtain ⟨⟨V, L, hc, hv⟩, _, _⟩ := ho
  obtain ⟨E, K, T, he, ht, hk⟩ := h
  have hn := u_node hv
  unfold evalG
  have app : isApp t → TC ds fs (applyG ds fs t e [] k) := fun ho => apply_ty hp ho hv he ht hk .nil (by simp) (Nat.zero_le _)
  obtain ⟨l, l', hl, hl', hr, ha, hcl⟩ := head_ty ht
  rcases op_cases hn with o | o | o | o | o | o | o | o | o | o | o | o | o
  · rw [if_pos o]
    simp [ruleT, o] at hr
    obtain ⟨b, hb, hbt⟩ := et_var he hr
    rw [hb]
    cases hbt with
    | val v _ h => exact ⟨T, h, hk⟩
    | thunk t' e' E' K' _ he' ht' => exact ⟨E', K', T, he', ht', hk⟩
  · simp only [o]
    simp [ruleT, o] at hr
    subst hr
    exact ⟨0, .int _, hk⟩
  · simp only [o]; exact app (.inl o)
  · simp [nodeB, o] at hn
    have h3 : t.args.length = 3 := by omega
    obtain ⟨a, haa⟩ : ∃ a, t.args[0]? = some a := ⟨_, List.getElem?_eq_getElem (by omega)⟩
    obtain ⟨u, hu, hty⟩ := ha _ _ haa
    rw [argE_other (by omega), argK_other (by omega)] at hty
    match l, hl.trans h3 with
    | [x, y, z], _ =>
      have hc0 : l' = [] := List.eq_nil_of_length_eq_zero (by rw [hl']; simp_all)
      subst hc0
      simp [ruleT, o] at hr
      simp at hu
      obtain ⟨⟨rfl, rfl⟩, rfl⟩ := hr
      subst hu
      simp only [o, arg_ty haa]
      exact ⟨E, K, 0, he, hty, .tst _ _ _ E K _ he ht hk⟩
  · simp only [o]; exact app (.inr (.inl o))
  · simp [nodeB, o] at hn
    have h1 : t.args.length = 1 := by omega
    obtain ⟨a, haa⟩ : ∃ a, t.args[0]? = some a := ⟨_, List.getElem?_eq_getElem (by omega)⟩
    obtain ⟨u, hu, hty⟩ := ha _ _ haa
    rw [argE_other (by omega), argK_other (by omega)] at hty
    match l, hl.trans h1 with
    | [x], _ =>
      simp at hu
      subst hu
      simp only [ruleT, o] at hr
      simp at hr
      have hx : x = t.ty := by
        split at hr
        · rename_i e; split at hr
          · rename_i h5; simp at e; rw [e.1]; exact h5.1
          · cases hr
        · cases hr
      subst hx
      simp only [o, arg_ty haa]
      exact ⟨E, K, t.ty, he, hty, .cas _ _ _ E K T he ht hk⟩
  · simp only [o]; exact app (.inr (.inr (.inl o)))
  · simp only [o]; exact ⟨T, .obj _ _ E K _ he ht, hk⟩
  · simp only [o]; exact app (.inr (.inr (.inr (.inl o))))
  · simp only [o]; exact app (.inr (.inr (.inr (.inr o))))
  · simp [nodeB, o] at hn
    have h2 : t.args.length = 2 := by omega
    obtain ⟨a, haa⟩ : ∃ a, t.args[0]? = some a := ⟨_, List.getElem?_eq_getElem (by omega)⟩
    obtain ⟨u, hu, hty⟩ := ha _ _ haa
    rw [argE_other (by omega), argK_other (by omega)] at hty
    match l, hl.trans h2 with
    | [x, y], _ =>
      have hc0 : l' = [] := List.eq_nil_of_length_eq_zero (by rw [hl']; simp_all)
      subst hc0
      simp [ruleT, o] at hr
      simp at hu
      obtain ⟨rfl, rfl⟩ := hr
      subst hu
      simp only [o, arg_ty haa]
      exact ⟨E, K, 0, he, hty, .tst _ _ _ E K _ he ht hk⟩
  · simp [nodeB, o] at hn
    have h1 : t.args.length = 1 := by omega
    obtain ⟨a, haa⟩ : ∃ a, t.args[0]? = some a := ⟨_, List.getElem?_eq_getElem (by omega)⟩
    obtain ⟨u, hu, hty⟩ := ha _ _ haa
    rw [argE_other (by omega), argK, if_pos o] at hty
    match l, hl.trans h1 with
    | [x], _ =>
      have hc0 : l' = [] := List.eq_nil_of_length_eq_zero (by rw [hl']; simp_all)
      subst hc0
      simp [ruleT, o] at hr
      simp at hu
      obtain ⟨rfl, rfl⟩ := hr
      subst hu
      simp only [o, arg_ty haa]
      exact ⟨E, _, t.ty, .lab _ _ _ _ _ _ hk he, hty, hk⟩
  · simp [nodeB, o] at hn
    have h1 : t.args.length = 1 := by omega
    obtain ⟨a, haa⟩ : ∃ a, t.args[0]? = some a := ⟨_, List.getElem?_eq_getElem (by omega)⟩
    obtain ⟨u, hu, hty⟩ := ha _ _ haa
    rw [argE_other (by omega), argK_other (by omega)] at hty
    match l, hl.trans h1 with
    | [x], _ =>
      have hc0 : l' = [] := List.eq_nil_of_length_eq_zero (by rw [hl']; simp_all)
      subst hc0
      simp [ruleT, o] at hr
      simp at hu
      subst hu
      obtain ⟨k', hk', hkt⟩ := et_lab he hr.1
      simp only [o, arg_ty haa, hk']
      exact ⟨E, K, x, he, hty, hkt⟩
theorem data_pos {t : Int} {co : Bool} (h : dataB ds t co = true) : 1 ≤ t ∧ codataB ds t = co := by
  simp [dataB] at h; exact ⟨h.1.1, h.2⟩
theorem obj_ty {t : TermG} {T : Int} (o : t.op = 7) (ht : typeT ds fs E K t = .ok T) : T = t.ty := by
  obtain ⟨l, l', _, _, hr, _⟩ := head_ty ht
  simp [ruleT, o] at hr
  exact hr.2.symm
theorem vt_int {n T : Int} (h : VT ds fs (.int n) T) : T = 0 := by cases h; rfl
theorem pass_ty (hp : ProgTy ds fs) {v : ValG} {k : FrmG} {T : Int} (hv : OkV ds fs v) (hk : OkK ds fs k) (tv : VT ds fs v T) (tk : KT ds fs k T) : TO ds fs (passG ds fs v k) := by
  have vpos : isIntV v = false → 1 ≤ T := fun h => by
    cases hv with
    | int n => cases h
    | con ty n args hs hl ha => cases tv; simp [hasN] at hs; omega
    | obj t e V L ho hc hv he =>
      cases tv with
      | obj _ _ E K _ he ht =>
        rw [obj_ty ho ht]
        have hn := u_node hv
        simp [nodeB, ho] at hn
        exact (data_pos hn.1.2).1
  cases hk with
  | nil =>
    cases tk
    cases v with
    | int n => exact rfl
    | con ty n args => have := vpos rfl; omega
    | obj t e => have := vpos rfl; omega
  | app t e got k V L ho hc hv2 he hg hi hl hk =>
    cases tk with
    | app _ _ _ _ E K _ T' he' ht hgt hty hk' =>
      rw [passG]
      by_cases h2 : t.op = 2 ∧ isIntV v = false
      · have h1 := vpos h2.2
        have hz : ∀ x ∈ typesG ds fs t, x = 0 := by simp [typesG, h2.1]
        have := hz _ (List.mem_of_getElem? hty)
        omega
      · rw [if_neg h2]
        refine apply_ty hp ho hv2 he' ht hk' ?_ (fun o2 b hb => ?_) (by simp; omega)
        · have h1 := hgt.snoc (.val v T tv)
          rw [List.length_append, List.length_cons, List.length_nil, Nat.zero_add, List.take_add_one, hty]
          exact h1
        · rcases List.mem_append.1 hb with hb | hb
          · exact hi o2 b hb
          · rw [List.mem_singleton.1 hb, isIntB]
            by_cases hq : isIntV v = true
            · exact hq
            · exact absurd ⟨o2, by simpa using hq⟩ h2
  | obs t e got k V L ho hv2 hg hl hk =>
    have hn := u_node hv2
    simp [nodeB, ho] at hn
    have hd := data_pos hn.1.1.1.1
    cases tk with
    | obs _ _ _ _ hgt hk' =>
      cases hv with
      | int n => have := vt_int tv; omega
      | con ty n args h _ _ =>
        cases tv with
        | con _ _ _ _ hdd _ => rw [hd.2] at hdd; cases hdd
      | obj t' e' V' L' ho' hc' hv' he' =>
        cases tv with
        | obj _ _ E K _ het ht =>
          have heq := obj_ty ho' ht
          rw [passG, if_pos heq.symm]
          have hn' := u_node hv'
          simp [nodeB, ho'] at hn'
          have hx := has_xtor (ds := ds) (t := t.ty) (n := t.n) hn.1.1.1.2
          rw [heq] at hx
          obtain ⟨c, hcl, hcn⟩ := ucls_at hn'.2 hx
          rw [hcl]
          obtain ⟨l, l', hl1, hl2, hr, ha, hc2⟩ := head_ty ht
          obtain ⟨u, hu, hty⟩ := hc2 _ _ hcl
          have hl0 : l = [] := List.eq_nil_of_length_eq_zero (by rw [hl1]; simp_all)
          subst hl0
          simp [ruleT, ho'] at hr
          rw [hr.1, List.getElem?_map, hx] at hu
          simp at hu
          rw [hx] at hty
          subst hu
          refine ⟨_, K, _, et_bind _ _ _ ?_ het, hty, ?_⟩
          · rw [heq] at hgt; exact hgt
          · rw [heq] at hk'; exact hk'
  | cas t e k V L ho hc hv2 he hk =>
    have hn := u_node hv2
    simp [nodeB, ho] at hn
    have hd := data_pos hn.1.2
    cases tk with
    | cas _ _ _ E K T' het ht hk' =>
      cases hv with
      | int n => have := vt_int tv; omega
      | obj t' e' V' L' ho' hc' hv' he' =>
        cases tv with
        | obj _ _ E2 K2 _ het2 ht2 =>
          have heq := obj_ty ho' ht2
          have hn' := u_node hv'
          simp [nodeB, ho'] at hn'
          have hd' := data_pos hn'.1.2
          rw [← heq, hd.2] at hd'
          cases hd'.2
      | con ty n args h hl ha =>
        cases tv with
        | con _ _ _ _ hdd hargs =>
          rw [passG, if_pos rfl]
          have hx := has_xtor h
          obtain ⟨c, hcl, hcn⟩ := ucls_at hn.2 hx
          rw [hcl]
          obtain ⟨l, l', hl1, hl2, hr, _, hc2⟩ := head_ty ht
          obtain ⟨u, hu, hty⟩ := hc2 _ _ hcl
          have hl1' : l.length = 1 := by rw [hl1]; omega
          match l, hl1' with
          | [x], _ =>
            have hul := List.mem_of_getElem? hu
            simp only [ruleT, ho] at hr
            simp at hr
            cases l' with
            | nil => cases hul
            | cons y ys =>
              simp at hr
              obtain ⟨⟨rfl, hall⟩, rfl⟩ := hr
              have huy : u = y := by
                rcases List.mem_cons.1 hul with h | h
                · exact h
                · exact hall u h
              subst huy
              rw [hx] at hty
              exact ⟨_, K, u, et_bind _ _ _ hargs het, hty, hk'⟩
  | tst t e k V L ho hc hv2 he hk =>
    have hn := u_node hv2
    cases tk with
    | tst _ _ _ E K T' het ht hk' =>
      cases v with
      | con ty n args => have := vpos rfl; omega
      | obj t' e' => have := vpos rfl; omega
      | int n =>
        rw [passG]
        obtain ⟨l, l', hl, hl', hr, ha, hcl⟩ := head_ty ht
        rcases ho with o | o
        · simp [nodeB, o] at hn
          rw [if_neg (by omega)]
          have h3 : t.args.length = 3 := by omega
          have hc0 : l' = [] := List.eq_nil_of_length_eq_zero (by rw [hl']; simp_all)
          subst hc0
          match l, hl.trans h3 with
          | [x, y, z], _ =>
            simp [ruleT, o] at hr
            obtain ⟨⟨rfl, rfl⟩, rfl⟩ := hr
            have hi : (if n = 0 then 1 else 2) < t.args.length := by split <;> omega
            obtain ⟨u, hu, hty⟩ := ha _ _ (List.getElem?_eq_getElem hi)
            rw [argE_other (by omega), argK_other (by omega)] at hty
            rw [arg_ty (List.getElem?_eq_getElem hi)]
            have huy : u = y := by
              by_cases hn0 : n = 0
              · simp [hn0] at hu; exact hu.symm
              · simp [hn0] at hu; exact hu.symm
            subst huy
            exact ⟨E, K, u, het, hty, hk'⟩
        · simp [nodeB, o] at hn
          rw [if_pos o]
          have h2 : t.args.length = 2 := by omega
          have hc0 : l' = [] := List.eq_nil_of_length_eq_zero (by rw [hl']; simp_all)
          subst hc0
          match l, hl.trans h2 with
          | [x, y], _ =>
            simp [ruleT, o] at hr
            obtain ⟨rfl, rfl⟩ := hr
            have hi : 1 < t.args.length := by omega
            obtain ⟨u, hu, hty⟩ := ha _ _ (List.getElem?_eq_getElem hi)
            rw [argE_other (by omega), argK_other (by omega)] at hty
            rw [arg_ty (List.getElem?_eq_getElem hi)]
            simp at hu
            subst hu
            exact ⟨E, K, y, het, hty, hk'⟩
/-- A typed machine goes on, typed, or ends well. -/
theorem next_typed (ho : RunOk ds fs) (hp : ProgTy ds fs) (f : Nat) {m : MacG} (h0 : m.fin = none) (h1 : OkC ds fs m.c) (h2 : TC ds fs m.c) :
    (nextG ds fs f m).fin = none ∧ OkC ds fs (nextG ds fs f m).c ∧ TC ds fs (nextG ds fs f m).c ∨ ∃ how val, (nextG ds fs f m).fin = some (how, val) ∧ how ≠ 2 := by
  cases hc : m.c with
  | ev t e k =>
    rw [hc] at h1 h2
    by_cases hs : m.steps = f
    · exact .inr ⟨1, 0, by rw [next_spent h0 hc hs], by decide⟩
    · rw [next_ev h0 hc hs]
      exact .inl ⟨rfl, eval_ok ho h1, eval_ty hp h1 h2⟩
  | gv v k =>
    rw [hc] at h1 h2
    obtain ⟨T, t1, t2⟩ := h2
    have g1 := pass_ok ho h1.1 h1.2
    have g2 := pass_ty hp h1.1 h1.2 t1 t2
    cases hq : passG ds fs v k with
    | go c => rw [next_go h0 hc hq]; rw [hq] at g1 g2; exact .inl ⟨rfl, g1, g2⟩
    | emit n c => rw [next_emit h0 hc hq]; rw [hq] at g1 g2; exact .inl ⟨rfl, g1, g2⟩
    | fin how val =>
      rw [next_end h0 hc hq]; rw [hq] at g2
      refine .inr ⟨how, val, rfl, ?_⟩
      have : how = 0 := g2
      omega
theorem iter_typed (ho : RunOk ds fs) (hp : ProgTy ds fs) (f : Nat) : ∀ (n : Nat) {m : MacG}, m.fin = none → OkC ds fs m.c → TC ds fs m.c → ∀ how val, (iterG ds fs f n m).fin = some (how, val) → how ≠ 2
  | 0, m, h0, _, _, how, val, h => by rw [iterG, h0] at h; cases h
  | n + 1, m, h0, h1, h2, how, val, h => by
    rw [iterG] at h
    rcases next_typed ho hp f h0 h1 h2 with ⟨g0, g1, g2⟩ | ⟨a, b, g, ga⟩
    · exact iter_typed ho hp f n g0 g1 g2 how val h
    · rw [iter_fin f n (by rw [g]; rfl), g] at h
      cases h; exact ga
end
end Go.Proofs.YtkoachnlimebaaaGreatDoor
/- The machine of direct evaluation: a well-typed program starts typed. -/
set_option linter.unusedSimpArgs false
set_option linter.unusedVariables false
namespace Go.Proofs.YtkoachnlimebaaaGreatDoor
open Go.AL

theorem fault_none {ds : List DeclG} {fs : List FunG} : ∀ (k : Nat) (l : List FunG), faultF ds fs k l = none → ∀ f ∈ l, typeT ds fs (bindE (fun _ => none) (f.params.map ParamG.name) (f.params.map ParamG.ty)) (fun _ => none) f.body = .ok f.res
  | _, [], _ => fun f hf => by cases hf
  | k, g :: r, h => by
    rw [faultF] at h
    intro f hf
    cases e : typeT ds fs (bindE (fun _ => none) (g.params.map ParamG.name) (g.params.map ParamG.ty)) (fun _ => none) g.body with
    | error q => rw [e] at h; simp at h
    | ok n =>
      rw [e] at h
      simp only at h
      by_cases hn : n = g.res
      · rcases List.mem_cons.1 hf with rfl | hf
        · rw [e, hn]
        · refine fault_none (k + 1) r ?_ f hf
          simpa [hn] using h
      · simp [hn] at h
theorem prog_ty {p : ProgG} (h : typedB p = true) : ProgTy p.ds p.fs := by
  refine ⟨fun f hf => ?_⟩
  unfold typedB at h
  exact fault_none 0 p.fs (by simpa using h) f hf
theorem bts_ints (ds : List DeclG) (fs : List FunG) : ∀ (l : List Int) (ts : List Int), l.length = ts.length → (∀ t ∈ ts, t = 0) → BTs ds fs (l.map fun n => .val (.int n)) ts
  | [], [], _, _ => .nil
  | n :: r, t :: q, hl, h => by
    obtain rfl := h t (by simp)
    exact .cons _ _ _ _ (.val _ _ (.int n)) (bts_ints ds fs r q (by simpa using hl) fun t ht => h t (by simp [ht]))
theorem main_ints {p : ProgG} (h : progB p = true) {f : FunG} (hf : p.fs.head? = some f) : (∀ t ∈ f.params.map ParamG.ty, t = 0) ∧ f.res = 0 := by
  simp only [progB, Bool.and_eq_true] at h
  have h1 := h.2.2.2.1
  match e : p.fs, hf with
  | g :: r, hf =>
    simp only [List.head?_cons, Option.some.injEq] at hf
    subst hf
    rw [e, headsB, Bool.and_eq_true] at h1
    have h2 := h1.1
    simp only [headX, Bool.and_eq_true, List.all_eq_true] at h2
    refine ⟨fun t ht => ?_, ?_⟩
    · obtain ⟨x, hx, rfl⟩ := List.mem_map.1 ht
      have := h2.1 x hx
      simp [paramX] at this
      exact this.2
    · have := h2.2.2.2.2
      simpa using this
theorem start_ty {p : ProgG} (hpr : progB p = true) (hty : typedB p = true) {f : FunG} (hf : p.fs.head? = some f) {inputs : List Int} (hl : inputs.length = f.params.length) : TC p.ds p.fs (startG f inputs).c := by
  obtain ⟨h1, h2⟩ := main_ints hpr hf
  have hm : f ∈ p.fs := List.mem_of_head? hf
  have hb := (prog_ty hty).body f hm
  rw [h2] at hb
  exact ⟨_, _, 0, et_bind _ _ _ (bts_ints _ _ _ _ (by rw [List.length_map]; exact hl) h1) .nil, hb, .nil⟩
theorem typed_ends {p : ProgG} (hpr : progB p = true) (hty : typedB p = true) {f : FunG} (hf : p.fs.head? = some f) {inputs : List Int} (hl : inputs.length = f.params.length) {fu : Nat} {m : MacG} (h : EndsG p.ds p.fs fu (startG f inputs) m) {how val : Int} (hfin : m.fin = some (how, val)) : how ≠ 2 := by
  obtain ⟨_, n, rfl⟩ := h
  exact iter_typed (run_ok hpr) (prog_ty hty) fu n rfl (start_ok hpr (List.mem_of_head? hf) hl) (start_ty hpr hty hf hl) how val hfin
end Go.Proofs.YtkoachnlimebaaaGreatDoor
