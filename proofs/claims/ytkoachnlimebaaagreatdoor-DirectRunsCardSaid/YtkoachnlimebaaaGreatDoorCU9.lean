/- What a valid program gives. -/
import Derived.Test.YtkoachnlimebaaaGreatDoorCT12
import Derived.OpenShut
set_option linter.unusedSimpArgs false
set_option linter.unusedVariables false
namespace Go.Proofs.YtkoachnlimebaaaGreatDoor
open Go.AL

structure RunP (p : ProgG) : Prop where
  hsm : SmallX p.ds
  hdl : p.ds.length ≤ 8
  hfp : ∀ f ∈ p.fs, f.params.length ≤ 6
theorem runp_heads (ds : List DeclG) : ∀ (i : Nat) (l : List FunG), headsB ds i l = true → ∀ f ∈ l, f.params.length ≤ 6
  | _, [], _ => fun f hf => by cases hf
  | i, g :: r, h => by
    rw [headsB, Bool.and_eq_true] at h
    intro f hf
    rcases List.mem_cons.1 hf with rfl | hf
    · have := h.1
      simp only [headX, Bool.and_eq_true, Bool.not_eq_true', decide_eq_false_iff_not] at this
      have := this.2.1; omega
    · exact runp_heads ds (i + 1) r h.2 f hf
theorem runp_bodies (ds : List DeclG) (pf : List Nat) : ∀ (left : Int) (l : List FunG), left ≤ 600 → bodiesB ds pf left l = true → ∀ f ∈ l, nodesT f.body ≤ 600 ∧ depthT f.body ≤ 24 ∧ validT ds pf (hasB (f.params.map ParamG.name)) (fun _ => false) f.body = true
  | _, [], _, _ => fun f hf => by cases hf
  | left, g :: r, hl, h => by
    rw [bodiesB, Bool.and_eq_true] at h
    intro f hf
    rcases List.mem_cons.1 hf with rfl | hf
    · have := h.1
      simp only [okB, Bool.and_eq_true, decide_eq_true_eq] at this
      exact ⟨by omega, by omega, this.2.2⟩
    · exact runp_bodies ds pf _ r (by omega) h.2 f hf
theorem runp_ok {p : ProgG} (h : progB p = true) : RunP p := by
  simp only [progB, Bool.and_eq_true] at h
  have hv := h.1.1
  rw [validB, Bool.and_eq_true, Bool.not_eq_true', decide_eq_false_iff_not] at hv
  exact ⟨small_valid h.1.1, by omega, runp_heads _ _ _ h.2.2.2.1⟩
theorem runp_body {p : ProgG} (h : progB p = true) : ∀ f ∈ p.fs, nodesT f.body ≤ 600 ∧ depthT f.body ≤ 24 ∧ validT p.ds p.pf (hasB (f.params.map ParamG.name)) (fun _ => false) f.body = true := by
  simp only [progB, Bool.and_eq_true] at h
  exact runp_bodies _ _ _ _ (Int.le_refl _) h.2.2.2.2.2
end Go.Proofs.YtkoachnlimebaaaGreatDoor
/- The machine of direct evaluation, in plain words. -/
set_option linter.unusedSimpArgs false
set_option linter.unusedVariables false
set_option maxRecDepth 20000
namespace Go.Proofs.YtkoachnlimebaaaGreatDoor
open Go.AL

mutual
inductive ValG where
  | int (n : Int)
  | con (ty n : Int) (args : List BndG)
  | obj (t : TermG) (env : EnvG)
inductive BndG where
  | val (v : ValG)
  | thunk (t : TermG) (env : EnvG)
inductive EnvG where
  | nil
  | var (name : Bytes) (b : BndG) (next : EnvG)
  | lab (name : Bytes) (k : FrmG) (next : EnvG)
inductive FrmG where
  | nil
  | app (t : TermG) (env : EnvG) (got : List BndG) (next : FrmG)
  | obs (t : TermG) (env : EnvG) (got : List BndG) (next : FrmG)
  | cas (t : TermG) (env : EnvG) (next : FrmG)
  | tst (t : TermG) (env : EnvG) (next : FrmG)
end
def findV : EnvG → Bytes → Option BndG
  | .nil, _ => none
  | .var s b e, x => if s = x then some b else findV e x
  | .lab _ _ e, x => findV e x
def findL : EnvG → Bytes → Option FrmG
  | .nil, _ => none
  | .var _ _ e, x => findL e x
  | .lab s k e, x => if s = x then some k else findL e x
def bindG : EnvG → List Bytes → List BndG → EnvG
  | e, s :: r, b :: q => bindG (.var s b e) r q
  | e, _, _ => e
def depthK : FrmG → Nat
  | .nil => 0
  | .app _ _ _ k => depthK k + 1
  | .obs _ _ _ k => depthK k + 1
  | .cas _ _ k => depthK k + 1
  | .tst _ _ k => depthK k + 1
/-- What is done next: a term is evaluated, or a value is passed. -/
inductive Ctl where
  | ev (t : TermG) (e : EnvG) (k : FrmG)
  | gv (v : ValG) (k : FrmG)
inductive OutG where
  | go (c : Ctl)
  | emit (n : Int) (c : Ctl)
  | fin (how val : Int)
def w64 (n : Int) : Int := IntKind.i64.wrap n
def primG (op a b : Int) : Int :=
  if op = 0 then w64 (a + b) else if op = 1 then w64 (a - b) else if op = 2 then w64 (a * b)
  else if op = 3 then (if b = 0 then 0 else w64 (a.tdiv b)) else if op = 4 then (if b = 0 then a else a.tmod b)
  else if op = 5 then (if a = b then 1 else 0) else if a < b then 1 else 0
def argK' (t : TermG) (i : Nat) : TermG := (t.args[i]?).getD t
section
variable (ds : List DeclG) (fs : List FunG)
/-- The types of the arguments that a term binds. -/
def typesG (t : TermG) : List Int :=
  if t.op = 4 ∨ t.op = 6 then prodsX (xtorAt ds t.ty t.n) else if t.op = 9 then ((fs[t.n.toNat]?).map fun f => f.params.map ParamG.ty).getD []
  else if t.op = 8 then [t.ty] else if t.op = 2 then [0, 0] else []
/-- An application whose arguments are bound. -/
def performG (t : TermG) (e : EnvG) (got : List BndG) (k : FrmG) : Ctl :=
  if t.op = 2 then (match got with | [.val (.int a), .val (.int b)] => .gv (.int (primG t.n a b)) k | _ => .ev t e k)
  else if t.op = 4 then .gv (.con t.ty t.n got) k
  else if t.op = 6 then .ev ((t.args.getLast?).getD t) e (.obs t e got k)
  else if t.op = 8 then (match got with | b :: _ => .ev (argK' t 1) (.var t.name b e) k | [] => .ev t e k)
  else match fs[t.n.toNat]? with | some f => .ev f.body (bindG .nil (f.params.map ParamG.name) got) k | none => .ev t e k
def goG (t : TermG) (e : EnvG) (k : FrmG) : List BndG → List Int → List TermG → Ctl
  | got, ty :: r, a :: q => if plusB ds ty = true then .ev a e (.app t e got k) else goG t e k (got ++ [.thunk a e]) r q
  | got, _, _ => performG fs t e got k
/-- An application some of whose arguments are bound. -/
def applyG (t : TermG) (e : EnvG) (got : List BndG) (k : FrmG) : Ctl := goG ds fs t e k got ((typesG ds fs t).drop got.length) (t.args.drop got.length)
def evalG (t : TermG) (e : EnvG) (k : FrmG) : Ctl :=
  if t.op = 0 then (match findV e t.name with | some (.val v) => .gv v k | some (.thunk t' e') => .ev t' e' k | none => .ev t e k)
  else if t.op = 1 then .gv (.int t.n) k
  else if t.op = 3 ∨ t.op = 10 then .ev (argK' t 0) e (.tst t e k)
  else if t.op = 5 then .ev (argK' t 0) e (.cas t e k)
  else if t.op = 7 then .gv (.obj t e) k
  else if t.op = 11 then .ev (argK' t 0) (.lab t.name k e) k
  else if t.op = 12 then .ev (argK' t 0) e ((findL e t.name).getD .nil)
  else applyG ds fs t e [] k
def isIntV : ValG → Bool | .int _ => true | _ => false
def passG (v : ValG) : FrmG → OutG
  | .nil => match v with | .int n => .fin 0 n | _ => .fin 2 0
  | .app t e got k => if t.op = 2 ∧ isIntV v = false then .fin 2 0 else .go (applyG ds fs t e (got ++ [.val v]) k)
  | .obs t e got k => match v with
    | .obj t' e' => if t'.ty = t.ty then (match t'.cls[t.n.toNat]? with | some c => .go (.ev c.body (bindG e' c.names got) k) | none => .fin 2 0) else .fin 2 0
    | _ => .fin 2 0
  | .cas t e k => match v with
    | .con ty n args => if ty = t.ty then (match t.cls[n.toNat]? with | some c => .go (.ev c.body (bindG e c.names args) k) | none => .fin 2 0) else .fin 2 0
    | _ => .fin 2 0
  | .tst t e k => match v with
    | .int n => if t.op = 10 then .emit n (.ev (argK' t 1) e k) else .go (.ev (argK' t (if n = 0 then 1 else 2)) e k)
    | _ => .fin 2 0
/-- A machine: what is next, what was emitted, the steps; or the end. -/
structure MacG where
  c : Ctl
  outs : List Int
  steps : Nat
  fin : Option (Int × Int)
def nextG (fuel : Nat) (m : MacG) : MacG :=
  match m.fin with
  | some _ => m
  | none => match m.c with
    | .ev t e k => if m.steps = fuel then { m with fin := some (1, 0) } else { m with c := evalG ds fs t e k, steps := m.steps + 1 }
    | .gv v k => match passG ds fs v k with
      | .go c => { m with c := c }
      | .emit n c => { m with c := c, outs := m.outs ++ [n] }
      | .fin how val => { m with fin := some (how, val) }
def iterG (fuel : Nat) : Nat → MacG → MacG
  | 0, m => m
  | n + 1, m => iterG fuel n (nextG ds fs fuel m)
end
end Go.Proofs.YtkoachnlimebaaaGreatDoor
/- The machine of direct evaluation: what is valid stays valid. -/
set_option linter.unusedSimpArgs false
set_option linter.unusedVariables false
set_option maxRecDepth 20000
namespace Go.Proofs.YtkoachnlimebaaaGreatDoor
open Go.AL

def Cov (e : EnvG) (V L : Bytes → Bool) : Prop := (∀ x, V x = true → ∃ b, findV e x = some b) ∧ (∀ x, L x = true → ∃ k, findL e x = some k)
def isIntB : BndG → Bool | .val v => isIntV v | _ => false
section
variable (ds : List DeclG) (fs : List FunG)
def pfs : List Nat := fs.map fun f => f.params.length
mutual
inductive OkV : ValG → Prop where
  | int (n : Int) : OkV (.int n)
  | con (ty n : Int) (args : List BndG) (h : hasN ds ty n = true) (hl : args.length = (prodsX (xtorAt ds ty n)).length) (ha : ∀ b, b ∈ args → OkB b) : OkV (.con ty n args)
  | obj (t : TermG) (e : EnvG) (V L : Bytes → Bool) (ho : t.op = 7) (hc : Cov e V L) (hv : validT ds (pfs fs) V L t = true) (he : OkE e) : OkV (.obj t e)
inductive OkB : BndG → Prop where
  | val (v : ValG) (h : OkV v) : OkB (.val v)
  | thunk (t : TermG) (e : EnvG) (V L : Bytes → Bool) (hc : Cov e V L) (hv : validT ds (pfs fs) V L t = true) (he : OkE e) : OkB (.thunk t e)
inductive OkE : EnvG → Prop where
  | nil : OkE .nil
  | var (s : Bytes) (b : BndG) (e : EnvG) (hb : OkB b) (he : OkE e) : OkE (.var s b e)
  | lab (s : Bytes) (k : FrmG) (e : EnvG) (hk : OkK k) (he : OkE e) : OkE (.lab s k e)
inductive OkK : FrmG → Prop where
  | nil : OkK .nil
  | app (t : TermG) (e : EnvG) (got : List BndG) (k : FrmG) (V L : Bytes → Bool) (ho : t.op = 2 ∨ t.op = 4 ∨ t.op = 6 ∨ t.op = 8 ∨ t.op = 9) (hc : Cov e V L) (hv : validT ds (pfs fs) V L t = true) (he : OkE e)
      (hg : ∀ b, b ∈ got → OkB b) (hi : t.op = 2 → ∀ b, b ∈ got → isIntB b = true) (hl : got.length < (typesG ds fs t).length) (hk : OkK k) : OkK (.app t e got k)
  | obs (t : TermG) (e : EnvG) (got : List BndG) (k : FrmG) (V L : Bytes → Bool) (ho : t.op = 6) (hv : validT ds (pfs fs) V L t = true) (hg : ∀ b, b ∈ got → OkB b) (hl : got.length = (typesG ds fs t).length) (hk : OkK k) : OkK (.obs t e got k)
  | cas (t : TermG) (e : EnvG) (k : FrmG) (V L : Bytes → Bool) (ho : t.op = 5) (hc : Cov e V L) (hv : validT ds (pfs fs) V L t = true) (he : OkE e) (hk : OkK k) : OkK (.cas t e k)
  | tst (t : TermG) (e : EnvG) (k : FrmG) (V L : Bytes → Bool) (ho : t.op = 3 ∨ t.op = 10) (hc : Cov e V L) (hv : validT ds (pfs fs) V L t = true) (he : OkE e) (hk : OkK k) : OkK (.tst t e k)
end
def OkC : Ctl → Prop
  | .ev t e k => (∃ V L, Cov e V L ∧ validT ds (pfs fs) V L t = true) ∧ OkE ds fs e ∧ OkK ds fs k
  | .gv v k => OkV ds fs v ∧ OkK ds fs k
def OkO : OutG → Prop
  | .go c => OkC ds fs c
  | .emit _ c => OkC ds fs c
  | .fin _ _ => True
end
section
variable {ds : List DeclG} {fs : List FunG} {V L : Bytes → Bool}
theorem u_node {pf : List Nat} {t : TermG} (h : validT ds pf V L t = true) : nodeB ds pf V L t = true := by
  rw [validT_eq, Bool.and_eq_true] at h; exact h.1
theorem u_args {pf : List Nat} {op : Int} {name : Bytes} : ∀ {l : List TermG} {k i : Nat} {a : TermG}, validA ds pf V L op name k l = true → l[i]? = some a → validT ds pf (argV V op name (k + i)) (argL L op name) a = true
  | [], _, _, _, _, h => by simp at h
  | b :: r, k, 0, a, hv, h => by
    rw [validA_cons, Bool.and_eq_true] at hv
    simp at h; subst h; exact hv.1
  | b :: r, k, i + 1, a, hv, h => by
    rw [validA_cons, Bool.and_eq_true] at hv
    have := u_args hv.2 (i := i) (by simpa using h)
    rw [show k + (i + 1) = k + 1 + i by omega]; exact this
theorem u_arg {pf : List Nat} {t a : TermG} {i : Nat} (h : validT ds pf V L t = true) (hi : t.args[i]? = some a) : validT ds pf (argV V t.op t.name i) (argL L t.op t.name) a = true := by
  rw [validT_eq, Bool.and_eq_true, Bool.and_eq_true] at h
  have := u_args h.2.1 hi
  rwa [Nat.zero_add] at this
theorem u_cls {pf : List Nat} : ∀ {l : List ClauseG} {i : Nat} {c : ClauseG}, validC ds pf V L l = true → l[i]? = some c → validT ds pf (addL V c.names) L c.body = true
  | [], _, _, _, h => by simp at h
  | b :: r, 0, c, hv, h => by
    rw [validC_cons, Bool.and_eq_true] at hv
    simp at h; subst h; exact hv.1
  | b :: r, i + 1, c, hv, h => by
    rw [validC_cons, Bool.and_eq_true] at hv
    exact u_cls hv.2 (i := i) (by simpa using h)
theorem u_clause {pf : List Nat} {t : TermG} {c : ClauseG} {i : Nat} (h : validT ds pf V L t = true) (hi : t.cls[i]? = some c) : validT ds pf (addL V c.names) L c.body = true := by
  rw [validT_eq, Bool.and_eq_true, Bool.and_eq_true] at h
  exact u_cls h.2.2 hi
theorem ucls_at : ∀ {xs : List XtorG} {cs : List ClauseG} {i : Nat} {x : XtorG}, clsNames xs cs = true → xs[i]? = some x → ∃ c, cs[i]? = some c ∧ c.names.length = prodN x
  | [], _, _, _, _, h => by simp at h
  | x :: xs, [], _, _, h, _ => by simp [clsNames] at h
  | x :: xs, c :: cs, 0, y, h, hx => by
    simp at hx; subst hx
    simp only [clsNames, Bool.and_eq_true, decide_eq_true_eq] at h
    exact ⟨c, rfl, h.1.1⟩
  | x :: xs, c :: cs, i + 1, y, h, hx => by
    simp only [clsNames, Bool.and_eq_true, decide_eq_true_eq] at h
    obtain ⟨d, h1, h2⟩ := ucls_at h.2 (i := i) (by simpa using hx)
    exact ⟨d, by simpa using h1, h2⟩
theorem prodN_len (x : XtorG) : (prodsX x).length = prodN x := by simp [prodsX, prodN]
theorem has_xtor {t n : Int} (h : hasN ds t n = true) : (xtorsOf ds t)[n.toNat]? = some (xtorAt ds t n) := by
  simp only [hasN, Bool.and_eq_true, decide_eq_true_eq] at h
  have hn : n.toNat < (xtorsOf ds t).length := by omega
  rw [xtorAt, List.getElem?_eq_getElem hn]; rfl
theorem hasB_iff {l : List Bytes} {x : Bytes} : hasB l x = true ↔ x ∈ l := by
  simp [hasB]
theorem Cov.mono {e : EnvG} {V' L' : Bytes → Bool} (h : Cov e V L) (hV : ∀ x, V' x = true → V x = true) (hL : ∀ x, L' x = true → L x = true) : Cov e V' L' := ⟨fun x hx => h.1 x (hV x hx), fun x hx => h.2 x (hL x hx)⟩
theorem Cov.var {e : EnvG} (h : Cov e V L) (s : Bytes) (b : BndG) : Cov (.var s b e) (addP V s) L := by
  refine ⟨fun x hx => ?_, fun x hx => h.2 x hx⟩
  by_cases hs : s = x
  · exact ⟨b, by rw [findV, if_pos hs]⟩
  · obtain ⟨c, hc⟩ := h.1 x (by simpa [addP, Ne.symm hs] using hx)
    exact ⟨c, by rw [findV, if_neg hs]; exact hc⟩
theorem Cov.lab {e : EnvG} (h : Cov e V L) (s : Bytes) (k : FrmG) : Cov (.lab s k e) V (addP L s) := by
  refine ⟨fun x hx => h.1 x hx, fun x hx => ?_⟩
  by_cases hs : s = x
  · exact ⟨k, by rw [findL, if_pos hs]⟩
  · obtain ⟨c, hc⟩ := h.2 x (by simpa [addP, Ne.symm hs] using hx)
    exact ⟨c, by rw [findL, if_neg hs]; exact hc⟩
theorem bindG_nil (e : EnvG) (l : List BndG) : bindG e [] l = e := by cases l <;> rfl
theorem bindG_nil' (e : EnvG) (l : List Bytes) : bindG e l [] = e := by cases l <;> rfl
theorem Cov.bind : ∀ (names : List Bytes) (bs' : List BndG) {e : EnvG} {V : Bytes → Bool}, names.length ≤ bs'.length → Cov e V L → Cov (bindG e names bs') (addL V names) L
  | [], l, e, V, _, h => by rw [bindG_nil]; exact h.mono (fun x hx => by simpa [addL, hasB] using hx) (fun _ h => h)
  | s :: r, [], e, V, hl, h => by simp at hl
  | s :: r, b :: q, e, V, hl, h => by
    rw [bindG]
    refine (Cov.bind r q (by simpa using hl) (h.var s b)).mono (fun x hx => ?_) (fun _ h => h)
    simp only [addL, addP, Bool.or_eq_true, hasB_iff, List.mem_cons, decide_eq_true_eq] at hx ⊢
    rcases hx with (rfl | hx) | hx
    · exact .inr (.inl rfl)
    · exact .inl hx
    · exact .inr (.inr hx)
theorem okE_bind : ∀ (names : List Bytes) (l : List BndG) {e : EnvG}, OkE ds fs e → (∀ b ∈ l, OkB ds fs b) → OkE ds fs (bindG e names l)
  | [], l, e, h, _ => by rw [bindG_nil]; exact h
  | s :: r, [], e, h, _ => by rw [bindG_nil']; exact h
  | s :: r, b :: q, e, h, hb => by
    rw [bindG]
    exact okE_bind r q (.var s b e (hb b (by simp)) h) (fun c hc => hb c (by simp [hc]))
theorem findV_ok : ∀ {e : EnvG} {x : Bytes} {b : BndG}, OkE ds fs e → findV e x = some b → OkB ds fs b
  | .nil, _, _, _, h => by simp [findV] at h
  | .var s c e, x, b, he, h => by
    cases he with | var _ _ _ hb he =>
    rw [findV] at h
    split at h
    · cases h; exact hb
    · exact findV_ok he h
  | .lab s k e, x, b, he, h => by
    cases he with | lab _ _ _ hk he =>
    rw [findV] at h
    exact findV_ok he h
theorem findL_ok : ∀ {e : EnvG} {x : Bytes} {k : FrmG}, OkE ds fs e → findL e x = some k → OkK ds fs k
  | .nil, _, _, _, h => by simp [findL] at h
  | .var s c e, x, b, he, h => by
    cases he with | var _ _ _ hb he =>
    rw [findL] at h
    exact findL_ok he h
  | .lab s k e, x, b, he, h => by
    cases he with | lab _ _ _ hk he =>
    rw [findL] at h
    split at h
    · cases h; exact hk
    · exact findL_ok he h
/-- What a valid program gives. -/
structure RunOk (ds : List DeclG) (fs : List FunG) : Prop where
  body : ∀ f ∈ fs, validT ds (pfs fs) (hasB (f.params.map ParamG.name)) (fun _ => false) f.body = true
theorem node_arity {t : TermG} (h : nodeB ds (pfs fs) V L t = true) (ho : t.op = 2 ∨ t.op = 4 ∨ t.op = 6 ∨ t.op = 8 ∨ t.op = 9) :
    (typesG ds fs t).length ≤ t.args.length ∧ (t.op = 6 → t.args.length = (typesG ds fs t).length + 1) ∧ (t.op = 8 → t.args.length = 2) ∧ (t.op = 9 → ∃ f, fs[t.n.toNat]? = some f ∧ (typesG ds fs t).length = f.params.length) := by
  rcases ho with o | o | o | o | o
  · simp [nodeB, o] at h
    simp [typesG, o, h]
  · simp [nodeB, o, hasN] at h
    have hx := has_xtor (ds := ds) (t := t.ty) (n := t.n) (by simp [hasN]; omega)
    simp [hx] at h
    simp [typesG, o, prodN_len, h]
  · simp [nodeB, o, hasN] at h
    have hx := has_xtor (ds := ds) (t := t.ty) (n := t.n) (by simp [hasN]; omega)
    simp [hx] at h
    have h9 := h.2
    simp [typesG, o, prodN_len]
    omega
  · simp [nodeB, o] at h
    simp [typesG, o, h]
  · simp [nodeB, o, pfs] at h
    obtain ⟨f, hf, hl⟩ := h.2
    simp [typesG, o, hf, hl]
end
end Go.Proofs.YtkoachnlimebaaaGreatDoor
/- The machine of direct evaluation: each move keeps what is valid. -/
set_option linter.unusedSimpArgs false
set_option linter.unusedVariables false
set_option maxRecDepth 20000
namespace Go.Proofs.YtkoachnlimebaaaGreatDoor
open Go.AL

section
variable {ds : List DeclG} {fs : List FunG} {V L : Bytes → Bool}
def isApp (t : TermG) : Prop := t.op = 2 ∨ t.op = 4 ∨ t.op = 6 ∨ t.op = 8 ∨ t.op = 9
theorem argL_app {t : TermG} (h : t.op ≠ 11) : argL L t.op t.name = L := by rw [argL, if_neg h]
theorem argV_other {t : TermG} (h : t.op ≠ 8) (i : Nat) : argV V t.op t.name i = V := by rw [argV, if_neg (fun e => h e.1)]
theorem app_arg {t a : TermG} {i : Nat} (ho : isApp t) (h : validT ds (pfs fs) V L t = true) (hi : i < (typesG ds fs t).length) (ha : t.args[i]? = some a) : validT ds (pfs fs) V L a = true := by
  have h1 := u_arg h ha
  rw [argL_app (by rcases ho with o | o | o | o | o <;> omega)] at h1
  by_cases h8 : t.op = 8
  · have hi0 : i = 0 := by simp [typesG, h8] at hi; omega
    subst hi0
    rwa [argV, if_neg (by omega)] at h1
  · rwa [argV_other h8] at h1
theorem perform_ok (hp : RunOk ds fs) {t : TermG} {e : EnvG} {got : List BndG} {k : FrmG} (ho : isApp t) (hc : Cov e V L) (hv : validT ds (pfs fs) V L t = true) (he : OkE ds fs e) (hk : OkK ds fs k)
    (hg : ∀ b, b ∈ got → OkB ds fs b) (hi : t.op = 2 → ∀ b, b ∈ got → isIntB b = true) (hl : got.length = (typesG ds fs t).length) : OkC ds fs (performG fs t e got k) := by
  have hn := u_node hv
  obtain ⟨n1, n2, n3, n4⟩ := node_arity hn ho
  unfold performG
  rcases ho with o | o | o | o | o
  · rw [if_pos o]
    have hi := hi o
    simp [typesG, o] at hl
    match got, hl with
    | [a, b], _ =>
      have ha := hi a (by simp)
      have hb := hi b (by simp)
      match a, b, ha, hb with
      | .val (.int x), .val (.int y), _, _ => exact ⟨.int _, hk⟩
  · rw [if_neg (by omega), if_pos o]
    refine ⟨.con _ _ _ ?_ ?_ hg, hk⟩
    · simp [nodeB, o] at hn; exact hn.1.1.1.2
    · rw [hl]; simp [typesG, o]
  · rw [if_neg (by omega), if_neg (by omega), if_pos o]
    have h6 := n2 o
    obtain ⟨a, ha⟩ : ∃ a, t.args[(typesG ds fs t).length]? = some a := ⟨_, List.getElem?_eq_getElem (by omega)⟩
    have hla : t.args.getLast? = some a := by rw [List.getLast?_eq_getElem?, h6, Nat.add_sub_cancel]; exact ha
    rw [hla]
    have h1 := u_arg hv ha
    rw [argL_app (by omega), argV_other (by omega)] at h1
    exact ⟨⟨V, L, hc, h1⟩, he, .obs _ _ _ _ V L o hv hg hl hk⟩
  · rw [if_neg (by omega), if_neg (by omega), if_neg (by omega), if_pos o]
    have h8 := n3 o
    obtain ⟨a, ha⟩ : ∃ a, t.args[1]? = some a := ⟨_, List.getElem?_eq_getElem (by omega)⟩
    have h1 := u_arg hv ha
    rw [argL_app (by omega), argV, if_pos ⟨o, rfl⟩] at h1
    simp [typesG, o] at hl
    match got, hl with
    | [b], _ =>
      simp only [argK', ha]
      exact ⟨⟨_, L, hc.var t.name b, h1⟩, .var _ _ _ (hg b (by simp)) he, hk⟩
  · rw [if_neg (by omega), if_neg (by omega), if_neg (by omega), if_neg (by omega)]
    obtain ⟨f, hf, hfl⟩ := n4 o
    rw [hf]
    have hb0 : Cov .nil (fun _ => false) (fun _ => false) := ⟨fun _ h => by simp at h, fun _ h => by simp at h⟩
    refine ⟨⟨_, _, (Cov.bind (f.params.map ParamG.name) got (by rw [List.length_map]; omega) hb0).mono (fun x hx => by simpa [addL] using hx) (fun _ h => h), hp.body f (List.mem_of_getElem? hf)⟩, okE_bind _ _ .nil hg, hk⟩
theorem go_ok (hp : RunOk ds fs) {t : TermG} {e : EnvG} {k : FrmG} (ho : isApp t) (hc : Cov e V L) (hv : validT ds (pfs fs) V L t = true) (he : OkE ds fs e) (hk : OkK ds fs k) :
    ∀ (n : Nat) (got : List BndG), got.length + n = (typesG ds fs t).length → (∀ b, b ∈ got → OkB ds fs b) → (t.op = 2 → ∀ b, b ∈ got → isIntB b = true) →
      OkC ds fs (goG ds fs t e k got ((typesG ds fs t).drop got.length) (t.args.drop got.length))
  | 0, got, hl, hg, hi => by
    rw [List.drop_of_length_le (show (typesG ds fs t).length ≤ got.length by omega), goG]
    · exact perform_ok hp ho hc hv he hk hg hi (by omega)
    · intro _ _ _ _ h; cases h
  | n + 1, got, hl, hg, hi => by
    have hn := node_arity (u_node hv) ho
    have hlt : got.length < (typesG ds fs t).length := by omega
    have hla : got.length < t.args.length := by omega
    rw [List.drop_eq_getElem_cons hlt, List.drop_eq_getElem_cons hla, goG]
    have ha := app_arg ho hv hlt (List.getElem?_eq_getElem hla)
    split
    · exact ⟨⟨V, L, hc, ha⟩, he, .app _ _ _ _ V L ho hc hv he hg hi hlt hk⟩
    · rename_i hpl
      have hth : OkB ds fs (.thunk t.args[got.length] e) := .thunk _ _ V L hc ha he
      have := go_ok hp ho hc hv he hk n (got ++ [.thunk t.args[got.length] e]) (by simp; omega) (fun b hb => by
        rcases List.mem_append.1 hb with hb | hb
        · exact hg b hb
        · rw [List.mem_singleton.1 hb]; exact hth) (fun o2 => by
        exfalso
        apply hpl
        have : (typesG ds fs t)[got.length] = 0 := by
          have hz : ∀ x ∈ typesG ds fs t, x = 0 := by simp [typesG, o2]
          exact hz _ (List.getElem_mem hlt)
        rw [this]; simp [plusB])
      rw [List.length_append] at this
      exact this
theorem apply_ok (hp : RunOk ds fs) {t : TermG} {e : EnvG} {got : List BndG} {k : FrmG} (ho : isApp t) (hc : Cov e V L) (hv : validT ds (pfs fs) V L t = true) (he : OkE ds fs e) (hk : OkK ds fs k)
    (hg : ∀ b, b ∈ got → OkB ds fs b) (hi : t.op = 2 → ∀ b, b ∈ got → isIntB b = true) (hl : got.length ≤ (typesG ds fs t).length) : OkC ds fs (applyG ds fs t e got k) :=
  go_ok hp ho hc hv he hk ((typesG ds fs t).length - got.length) got (by omega) hg hi
theorem arg_ok {t : TermG} {e : EnvG} {k : FrmG} {i : Nat} (hc : Cov e V L) (hv : validT ds (pfs fs) V L t = true) (he : OkE ds fs e) (hk : OkK ds fs k) (hi : i < t.args.length) (h8 : t.op ≠ 8) (h11 : t.op ≠ 11) : OkC ds fs (.ev (argK' t i) e k) := by
  have ha := u_arg hv (List.getElem?_eq_getElem hi)
  rw [argL_app h11, argV_other h8] at ha
  rw [argK', List.getElem?_eq_getElem hi]
  exact ⟨⟨V, L, hc, ha⟩, he, hk⟩
theorem op_cases {t : TermG} (h : nodeB ds (pfs fs) V L t = true) : t.op = 0 ∨ t.op = 1 ∨ t.op = 2 ∨ t.op = 3 ∨ t.op = 4 ∨ t.op = 5 ∨ t.op = 6 ∨ t.op = 7 ∨ t.op = 8 ∨ t.op = 9 ∨ t.op = 10 ∨ t.op = 11 ∨ t.op = 12 := by
  unfold nodeB at h
  by_cases a0 : t.op = 0; · omega
  by_cases a1 : t.op = 1; · omega
  by_cases a2 : t.op = 2; · omega
  by_cases a3 : t.op = 3; · omega
  by_cases a4 : t.op = 4; · omega
  by_cases a5 : t.op = 5; · omega
  by_cases a6 : t.op = 6; · omega
  by_cases a7 : t.op = 7; · omega
  by_cases a8 : t.op = 8; · omega
  by_cases a9 : t.op = 9; · omega
  by_cases a10 : t.op = 10; · omega
  by_cases a11 : t.op = 11; · omega
  by_cases a12 : t.op = 12; · omega
  simp [a0, a1, a2, a3, a4, a5, a6, a7, a8, a9, a10, a11, a12] at h
theorem eval_ok (hp : RunOk ds fs) {t : TermG} {e : EnvG} {k : FrmG} (h : OkC ds fs (.ev t e k)) : OkC ds fs (evalG ds fs t e k) := by
  obtain ⟨⟨V, L, hc, hv⟩, he, hk⟩ := h
  have hn := u_node hv
  unfold evalG
  rcases op_cases hn with o | o | o | o | o | o | o | o | o | o | o | o | o
  · rw [if_pos o]
    simp [nodeB, o] at hn
    obtain ⟨b, hb⟩ := hc.1 t.name hn.2
    rw [hb]
    have := findV_ok he hb
    cases this with
    | val v hv => exact ⟨hv, hk⟩
    | thunk t' e' V' L' hc' hv' he' => exact ⟨⟨V', L', hc', hv'⟩, he', hk⟩
  · simp only [o]; exact ⟨.int _, hk⟩
  · simp only [o]; exact apply_ok hp (.inl o) hc hv he hk (by simp) (by simp) (Nat.zero_le _)
  · simp [nodeB, o] at hn
    simp only [o]; exact arg_ok hc hv he (.tst _ _ _ V L (.inl o) hc hv he hk) (by omega) (by omega) (by omega)
  · simp only [o]; exact apply_ok hp (.inr (.inl o)) hc hv he hk (by simp) (by simp) (Nat.zero_le _)
  · simp [nodeB, o] at hn
    simp only [o]; exact arg_ok hc hv he (.cas _ _ _ V L o hc hv he hk) (by omega) (by omega) (by omega)
  · simp only [o]; exact apply_ok hp (.inr (.inr (.inl o))) hc hv he hk (by simp) (by simp) (Nat.zero_le _)
  · simp only [o]; exact ⟨.obj _ _ V L o hc hv he, hk⟩
  · simp only [o]; exact apply_ok hp (.inr (.inr (.inr (.inl o)))) hc hv he hk (by simp) (by simp) (Nat.zero_le _)
  · simp only [o]; exact apply_ok hp (.inr (.inr (.inr (.inr o)))) hc hv he hk (by simp) (by simp) (Nat.zero_le _)
  · simp [nodeB, o] at hn
    simp only [o]; exact arg_ok hc hv he (.tst _ _ _ V L (.inr o) hc hv he hk) (by omega) (by omega) (by omega)
  · simp [nodeB, o] at hn
    have hi : 0 < t.args.length := by omega
    have ha := u_arg hv (List.getElem?_eq_getElem hi)
    rw [argV_other (by omega), argL, if_pos o] at ha
    simp only [o, argK', List.getElem?_eq_getElem hi]
    exact ⟨⟨_, _, hc.lab t.name k, ha⟩, .lab _ _ _ hk he, hk⟩
  · simp [nodeB, o] at hn
    obtain ⟨k', hk'⟩ := hc.2 t.name hn.1.2
    simp only [o, hk']
    exact arg_ok hc hv he (findL_ok he hk') (by omega) (by omega) (by omega)
theorem pass_ok (hp : RunOk ds fs) {v : ValG} {k : FrmG} (hv : OkV ds fs v) (hk : OkK ds fs k) : OkO ds fs (passG ds fs v k) := by
  cases hk with
  | nil => cases v <;> trivial
  | app t e got k V L ho hc hv2 he hg hi hl hk =>
    rw [passG]
    split
    · trivial
    · rename_i h2
      refine apply_ok hp ho hc hv2 he hk (fun b hb => ?_) (fun o2 b hb => ?_) (by simp; omega)
      · rcases List.mem_append.1 hb with hb | hb
        · exact hg b hb
        · rw [List.mem_singleton.1 hb]; exact .val v hv
      · rcases List.mem_append.1 hb with hb | hb
        · exact hi o2 b hb
        · rw [List.mem_singleton.1 hb, isIntB]
          by_cases hq : isIntV v = true
          · exact hq
          · exact absurd ⟨o2, by simpa using hq⟩ h2
  | obs t e got k V L ho hv2 hg hl hk =>
    cases hv with
    | int n => trivial
    | con => trivial
    | obj t' e' V' L' ho' hc' hv' he' =>
      rw [passG]
      split
      · rename_i heq
        have hn := u_node hv2
        have hn' := u_node hv'
        simp [nodeB, ho] at hn
        simp [nodeB, ho'] at hn'
        have hx := has_xtor (ds := ds) (t := t.ty) (n := t.n) hn.1.1.1.2
        rw [← heq] at hx
        obtain ⟨c, hcl, hcn⟩ := ucls_at hn'.2 hx
        rw [hcl]
        refine ⟨⟨_, _, hc'.bind c.names got ?_, u_clause hv' hcl⟩, okE_bind _ _ he' hg, hk⟩
        rw [hcn, hl, ← prodN_len]
        simp [typesG, ho, heq]
      · trivial
  | cas t e k V L ho hc hv2 he hk =>
    cases hv with
    | int n => trivial
    | obj => trivial
    | con ty n args h hl ha =>
      rw [passG]
      split
      · rename_i heq
        have hn := u_node hv2
        simp [nodeB, ho] at hn
        have hx := has_xtor h
        rw [heq] at hx
        obtain ⟨c, hcl, hcn⟩ := ucls_at hn.2 hx
        rw [hcl]
        refine ⟨⟨_, _, hc.bind c.names args ?_, u_clause hv2 hcl⟩, okE_bind _ _ he ha, hk⟩
        rw [hcn, hl, ← prodN_len, heq]
        exact Nat.le_refl _
      · trivial
  | tst t e k V L ho hc hv2 he hk =>
    cases hv with
    | con => trivial
    | obj => trivial
    | int n =>
      have hn := u_node hv2
      rw [passG]
      rcases ho with o | o
      · simp [nodeB, o] at hn
        rw [if_neg (by omega)]
        exact arg_ok hc hv2 he hk (by split <;> omega) (by omega) (by omega)
      · simp [nodeB, o] at hn
        rw [if_pos o]
        exact arg_ok hc hv2 he hk (by omega) (by omega) (by omega)
end
end Go.Proofs.YtkoachnlimebaaaGreatDoor
/- The machine of direct evaluation: every run ends; more fuel. -/
set_option linter.unusedSimpArgs false
set_option linter.unusedVariables false
set_option maxRecDepth 20000
namespace Go.Proofs.YtkoachnlimebaaaGreatDoor
open Go.AL

section
variable {ds : List DeclG} {fs : List FunG}
def rankC : Ctl → Nat
  | .ev _ _ _ => 0
  | .gv _ k => depthK k + 1
def isEv : Ctl → Bool | .ev _ _ _ => true | _ => false
theorem perform_rank (t : TermG) (e : EnvG) (got : List BndG) (k : FrmG) : rankC (performG fs t e got k) ≤ depthK k + 1 := by
  unfold performG
  split
  · split <;> simp [rankC]
  · split
    · simp [rankC]
    · split
      · simp [rankC]
      · split
        · split <;> simp [rankC]
        · split <;> simp [rankC]
theorem go_rank (t : TermG) (e : EnvG) (k : FrmG) : ∀ (r : List Int) (q : List TermG) (got : List BndG), rankC (goG ds fs t e k got r q) ≤ depthK k + 1
  | ty :: r, a :: q, got => by
    rw [goG]
    split
    · simp [rankC]
    · exact go_rank t e k r q _
  | [], q, got => by rw [goG]; exact perform_rank t e got k; all_goals simp
  | _ :: _, [], got => by rw [goG]; exact perform_rank t e got k; all_goals simp
theorem pass_rank (v : ValG) (k : FrmG) : match passG ds fs v k with | .go c => rankC c ≤ depthK k | .emit _ c => isEv c = true | .fin how _ => how = 0 ∨ how = 2 := by
  cases k with
  | nil => cases v <;> simp [passG]
  | app t e got k =>
    rw [passG]
    by_cases h : t.op = 2 ∧ isIntV v = false
    · rw [if_pos h]; exact .inr rfl
    · rw [if_neg h]
      exact go_rank t e k _ _ _
  | obs t e got k =>
    cases v with
    | obj t' e' =>
      rw [passG]
      by_cases h1 : t'.ty = t.ty
      · rw [if_pos h1]
        cases t'.cls[t.n.toNat]? <;> simp [rankC]
      · rw [if_neg h1]; simp
    | int n => simp [passG]
    | con ty n args => simp [passG]
  | cas t e k =>
    cases v with
    | con ty n args =>
      rw [passG]
      by_cases h1 : ty = t.ty
      · rw [if_pos h1]
        cases t.cls[n.toNat]? <;> simp [rankC]
      · rw [if_neg h1]; simp
    | int n => simp [passG]
    | obj t' e' => simp [passG]
  | tst t e k =>
    cases v with
    | int n =>
      rw [passG]
      by_cases h1 : t.op = 10
      · rw [if_pos h1]; simp [isEv]
      · rw [if_neg h1]; simp [rankC]
    | con ty n args => simp [passG]
    | obj t' e' => simp [passG]
theorem next_spent {f : Nat} {m : MacG} (h0 : m.fin = none) {t : TermG} {e : EnvG} {k : FrmG} (hc : m.c = .ev t e k) (hs : m.steps = f) : nextG ds fs f m = { m with fin := some (1, 0) } := by
  simp only [nextG, h0, hc, if_pos hs]
theorem next_ev {f : Nat} {m : MacG} (h0 : m.fin = none) {t : TermG} {e : EnvG} {k : FrmG} (hc : m.c = .ev t e k) (hs : m.steps ≠ f) : nextG ds fs f m = ⟨evalG ds fs t e k, m.outs, m.steps + 1, none⟩ := by
  simp only [nextG, h0, hc, if_neg hs]
theorem next_go {f : Nat} {m : MacG} (h0 : m.fin = none) {v : ValG} {k : FrmG} (hc : m.c = .gv v k) {c : Ctl} (hp : passG ds fs v k = .go c) : nextG ds fs f m = ⟨c, m.outs, m.steps, none⟩ := by
  simp only [nextG, h0, hc, hp]
theorem next_emit {f : Nat} {m : MacG} (h0 : m.fin = none) {v : ValG} {k : FrmG} (hc : m.c = .gv v k) {n : Int} {c : Ctl} (hp : passG ds fs v k = .emit n c) : nextG ds fs f m = ⟨c, m.outs ++ [n], m.steps, none⟩ := by
  simp only [nextG, h0, hc, hp]
theorem next_end {f : Nat} {m : MacG} (h0 : m.fin = none) {v : ValG} {k : FrmG} (hc : m.c = .gv v k) {how val : Int} (hp : passG ds fs v k = .fin how val) : nextG ds fs f m = { m with fin := some (how, val) } := by
  simp only [nextG, h0, hc, hp]
theorem iter_add (f : Nat) : ∀ (n k : Nat) (m : MacG), iterG ds fs f (n + k) m = iterG ds fs f k (iterG ds fs f n m)
  | 0, k, m => by rw [Nat.zero_add, iterG]
  | n + 1, k, m => by rw [show n + 1 + k = (n + k) + 1 by omega, iterG, iterG, iter_add f n k]
theorem next_fin (f : Nat) {m : MacG} (h : m.fin.isSome = true) : nextG ds fs f m = m := by
  unfold nextG
  cases hq : m.fin with
  | none => rw [hq] at h; cases h
  | some x => rfl
theorem iter_fin (f : Nat) : ∀ (n : Nat) {m : MacG}, m.fin.isSome = true → iterG ds fs f n m = m
  | 0, m, _ => by rw [iterG]
  | n + 1, m, h => by rw [iterG, next_fin f h, iter_fin f n h]
/-- The run from a machine ends in another. -/
def EndsG (ds : List DeclG) (fs : List FunG) (f : Nat) (m r : MacG) : Prop := r.fin.isSome = true ∧ ∃ n, iterG ds fs f n m = r
theorem EndsG.unique {f : Nat} {m r r' : MacG} (h : EndsG ds fs f m r) (h' : EndsG ds fs f m r') : r = r' := by
  obtain ⟨h1, n, h2⟩ := h
  obtain ⟨h3, k, h4⟩ := h'
  have e1 : iterG ds fs f (n + k) m = r := by rw [iter_add, h2, iter_fin f k h1]
  have e2 : iterG ds fs f (k + n) m = r' := by rw [iter_add, h4, iter_fin f n h3]
  rw [← e1, ← e2, Nat.add_comm]
theorem EndsG.step {f : Nat} {m r : MacG} (h : EndsG ds fs f (nextG ds fs f m) r) : EndsG ds fs f m r := by
  obtain ⟨h1, n, h2⟩ := h
  exact ⟨h1, n + 1, by rw [iterG]; exact h2⟩
theorem EndsG.next {f : Nat} {m r : MacG} (h : EndsG ds fs f m r) (hm : m.fin = none) : EndsG ds fs f (nextG ds fs f m) r := by
  obtain ⟨h1, n, h2⟩ := h
  cases n with
  | zero => rw [iterG] at h2; subst h2; rw [hm] at h1; cases h1
  | succ n => rw [iterG] at h2; exact ⟨h1, n, h2⟩
theorem ends_exist (f : Nat) : ∀ (a b : Nat) (m : MacG), f - m.steps = a → rankC m.c = b → m.steps ≤ f → ∃ r, EndsG ds fs f m r := by
  intro a
  induction a using Nat.strongRecOn with
  | ind a iha =>
    intro b
    induction b using Nat.strongRecOn with
    | ind b ihb =>
      intro m ha hb hm
      cases hq : m.fin with
      | some x => exact ⟨m, by rw [hq]; rfl, 0, rfl⟩
      | none =>
        cases hc : m.c with
        | ev t e k =>
          by_cases hs : m.steps = f
          · refine ⟨nextG ds fs f m, ?_, 1, rfl⟩
            simp only [nextG, hq, hc, if_pos hs]; rfl
          · have e1 : nextG ds fs f m = { m with c := evalG ds fs t e k, steps := m.steps + 1 } := by simp only [nextG, hq, hc, if_neg hs]
            obtain ⟨r, hr⟩ := iha (f - (m.steps + 1)) (by omega) _ (nextG ds fs f m) (by rw [e1]) rfl (by rw [e1]; show m.steps + 1 ≤ f; omega)
            exact ⟨r, hr.step⟩
        | gv v k =>
          have hr := pass_rank (ds := ds) (fs := fs) v k
          cases hp : passG ds fs v k with
          | go c =>
            rw [hp] at hr
            have e1 : nextG ds fs f m = { m with c := c } := by simp only [nextG, hq, hc, hp]
            obtain ⟨r, hr⟩ := ihb (rankC c) (by rw [hc] at hb; simp only [rankC] at hb; simp only at hr; omega) (nextG ds fs f m) (by rw [e1]; exact ha) (by rw [e1]) (by rw [e1]; exact hm)
            exact ⟨r, hr.step⟩
          | emit n c =>
            rw [hp] at hr
            have e1 : nextG ds fs f m = { m with c := c, outs := m.outs ++ [n] } := by simp only [nextG, hq, hc, hp]
            have hz : rankC c = 0 := by cases c <;> simp [isEv] at hr; rfl
            obtain ⟨r, hr⟩ := ihb (rankC c) (by rw [hc] at hb; simp only [rankC] at hb; omega) (nextG ds fs f m) (by rw [e1]; exact ha) (by rw [e1]) (by rw [e1]; exact hm)
            exact ⟨r, hr.step⟩
          | fin how val =>
            refine ⟨nextG ds fs f m, ?_, 1, rfl⟩
            simp only [nextG, hq, hc, hp]; rfl
theorem next_grow (f : Nat) (m : MacG) : m.steps ≤ (nextG ds fs f m).steps ∧ (∃ l, (nextG ds fs f m).outs = m.outs ++ l) ∧ (m.steps ≤ f → (nextG ds fs f m).steps ≤ f) := by
  unfold nextG
  cases m.fin with
  | some x => exact ⟨Nat.le_refl _, ⟨[], by simp⟩, fun h => h⟩
  | none =>
    cases m.c with
    | ev t e k =>
      simp only
      split
      · exact ⟨Nat.le_refl _, ⟨[], by simp⟩, fun h => h⟩
      · rename_i h; exact ⟨Nat.le_succ _, ⟨[], by simp⟩, fun h2 => by simp only; omega⟩
    | gv v k =>
      simp only
      cases passG ds fs v k with
      | go c => exact ⟨Nat.le_refl _, ⟨[], by simp⟩, fun h => h⟩
      | emit n c => exact ⟨Nat.le_refl _, ⟨[n], rfl⟩, fun h => h⟩
      | fin how val => exact ⟨Nat.le_refl _, ⟨[], by simp⟩, fun h => h⟩
/-- What was emitted is no longer than the steps. -/
def LenOk (m : MacG) : Prop := m.outs.length + (if isEv m.c then 0 else 1) ≤ m.steps
theorem next_len (f : Nat) {m : MacG} (h : LenOk m) (h0 : m.fin = none) : LenOk (nextG ds fs f m) := by
  unfold LenOk at h
  cases hc : m.c with
  | ev t e k =>
    by_cases hs : m.steps = f
    · rw [next_spent h0 hc hs]; exact h
    · rw [next_ev h0 hc hs]
      unfold LenOk
      rw [hc] at h
      simp only [isEv, if_true] at h
      simp only
      split <;> omega
  | gv v k =>
    have hr := pass_rank (ds := ds) (fs := fs) v k
    rw [hc] at h
    simp only [isEv] at h
    simp at h
    cases hp : passG ds fs v k with
    | go c =>
      rw [next_go h0 hc hp]
      unfold LenOk
      simp only
      split <;> omega
    | emit n c =>
      rw [hp] at hr
      simp only at hr
      rw [next_emit h0 hc hp]
      unfold LenOk
      simp only [hr, if_true, List.length_append, List.length_cons, List.length_nil]
      omega
    | fin how val =>
      rw [next_end h0 hc hp]
      unfold LenOk
      simp only [hc, isEv]
      simp
      omega
end
end Go.Proofs.YtkoachnlimebaaaGreatDoor
/- The machine of direct evaluation: its numbers are ints. -/
set_option linter.unusedSimpArgs false
set_option linter.unusedVariables false
namespace Go.Proofs.YtkoachnlimebaaaGreatDoor
open Go.AL

/-- A number is an int. -/
def I64 (n : Int) : Prop := -9223372036854775808 ≤ n ∧ n ≤ 9223372036854775807
theorem w64_in (n : Int) : I64 (w64 n) := by
  have h := Go.wf_wrap .i64 n
  simp only [Lit.wf, Bool.and_eq_true, decide_eq_true_eq] at h
  exact h
theorem prim_in {op a b : Int} (ha : I64 a) (hb : I64 b) : I64 (primG op a b) := by
  unfold primG
  split
  · exact w64_in _
  split
  · exact w64_in _
  split
  · exact w64_in _
  split
  · split
    · exact ⟨by omega, by omega⟩
    · exact w64_in _
  split
  · split
    · exact ha
    · have h1 := Int.natAbs_tmod a b
      have h2 : (a.tmod b).natAbs ≤ a.natAbs := by rw [h1]; exact Nat.mod_le _ _
      unfold I64 at *
      by_cases h0 : 0 ≤ a
      · have := Int.tmod_nonneg b h0
        omega
      · have h3 : 0 ≤ (-a).tmod b := Int.tmod_nonneg b (by omega)
        rw [Int.neg_tmod] at h3
        omega
  split
  · split <;> exact ⟨by omega, by omega⟩
  · split <;> exact ⟨by omega, by omega⟩
mutual
def rgT : TermG → Prop
  | .mk _ n _ _ _ args _ cls => I64 n ∧ rgA args ∧ rgC cls
def rgA : List TermG → Prop
  | [] => True
  | a :: r => rgT a ∧ rgA r
def rgC : List ClauseG → Prop
  | [] => True
  | c :: r => rgB c ∧ rgC r
def rgB : ClauseG → Prop
  | .mk _ _ b => rgT b
end
theorem rgA_mem : ∀ {l : List TermG}, rgA l → ∀ a ∈ l, rgT a
  | [], _, a, h => by cases h
  | b :: r, h, a, hm => by
    rw [rgA] at h
    rcases List.mem_cons.1 hm with rfl | hm
    · exact h.1
    · exact rgA_mem h.2 a hm
theorem rgC_mem : ∀ {l : List ClauseG}, rgC l → ∀ c ∈ l, rgT c.body
  | [], _, a, h => by cases h
  | b :: r, h, c, hm => by
    rw [rgC] at h
    rcases List.mem_cons.1 hm with rfl | hm
    · cases c; have := h.1; rw [rgB] at this; exact this
    · exact rgC_mem h.2 c hm
theorem rgT_n {t : TermG} (h : rgT t) : I64 t.n := by cases t; rw [rgT] at h; exact h.1
theorem rgT_args {t : TermG} (h : rgT t) : ∀ a ∈ t.args, rgT a := by cases t; rw [rgT] at h; exact rgA_mem h.2.1
theorem rgT_cls {t : TermG} (h : rgT t) : ∀ c ∈ t.cls, rgT c.body := by cases t; rw [rgT] at h; exact rgC_mem h.2.2
mutual
inductive RV : ValG → Prop where
  | int (n : Int) (h : I64 n) : RV (.int n)
  | con (ty n : Int) (args : List BndG) (ha : ∀ b, b ∈ args → RB b) : RV (.con ty n args)
  | obj (t : TermG) (e : EnvG) (hv : rgT t) (he : RE e) : RV (.obj t e)
inductive RB : BndG → Prop where
  | val (v : ValG) (h : RV v) : RB (.val v)
  | thunk (t : TermG) (e : EnvG) (hv : rgT t) (he : RE e) : RB (.thunk t e)
inductive RE : EnvG → Prop where
  | nil : RE .nil
  | var (s : Bytes) (b : BndG) (e : EnvG) (hb : RB b) (he : RE e) : RE (.var s b e)
  | lab (s : Bytes) (k : FrmG) (e : EnvG) (hk : RK k) (he : RE e) : RE (.lab s k e)
inductive RK : FrmG → Prop where
  | nil : RK .nil
  | app (t : TermG) (e : EnvG) (got : List BndG) (k : FrmG) (hv : rgT t) (he : RE e) (hg : ∀ b, b ∈ got → RB b) (hk : RK k) : RK (.app t e got k)
  | obs (t : TermG) (e : EnvG) (got : List BndG) (k : FrmG) (hv : rgT t) (he : RE e) (hg : ∀ b, b ∈ got → RB b) (hk : RK k) : RK (.obs t e got k)
  | cas (t : TermG) (e : EnvG) (k : FrmG) (hv : rgT t) (he : RE e) (hk : RK k) : RK (.cas t e k)
  | tst (t : TermG) (e : EnvG) (k : FrmG) (hv : rgT t) (he : RE e) (hk : RK k) : RK (.tst t e k)
end
def RC : Ctl → Prop
  | .ev t e k => rgT t ∧ RE e ∧ RK k
  | .gv v k => RV v ∧ RK k
def RO : OutG → Prop
  | .go c => RC c
  | .emit n c => I64 n ∧ RC c
  | .fin how val => how = 0 → I64 val
section
variable {ds : List DeclG} {fs : List FunG}
theorem rfindV : ∀ {e : EnvG} {x : Bytes} {b : BndG}, RE e → findV e x = some b → RB b
  | .nil, _, _, _, h => by cases h
  | .var s b e, x, c, h, hf => by
    cases h with
    | var _ _ _ hb he =>
      rw [findV] at hf
      split at hf
      · obtain rfl := Option.some.inj hf; exact hb
      · exact rfindV he hf
  | .lab s k e, x, c, h, hf => by
    cases h with
    | lab _ _ _ hk he => rw [findV] at hf; exact rfindV he hf
theorem rfindL : ∀ {e : EnvG} {x : Bytes} {k : FrmG}, RE e → findL e x = some k → RK k
  | .nil, _, _, _, h => by cases h
  | .var s b e, x, c, h, hf => by
    cases h with
    | var _ _ _ hb he => rw [findL] at hf; exact rfindL he hf
  | .lab s k e, x, c, h, hf => by
    cases h with
    | lab _ _ _ hk he =>
      rw [findL] at hf
      split at hf
      · obtain rfl := Option.some.inj hf; exact hk
      · exact rfindL he hf
theorem rbind : ∀ (names : List Bytes) (l : List BndG) {e : EnvG}, (∀ b, b ∈ l → RB b) → RE e → RE (bindG e names l)
  | [], l, e, _, he => by cases l <;> exact he
  | s :: r, [], e, _, he => he
  | s :: r, b :: q, e, h, he => by
    rw [bindG]
    exact rbind r q (fun c hc => h c (by simp [hc])) (.var s b e (h b (by simp)) he)
theorem rperform (hp : ∀ f ∈ fs, rgT f.body) {t : TermG} {e : EnvG} {got : List BndG} {k : FrmG} (hv : rgT t) (he : RE e) (hk : RK k) (hg : ∀ b, b ∈ got → RB b) : RC (performG fs t e got k) := by
  unfold performG
  split
  · split
    · have ha := hg _ (List.mem_cons_self ..)
      have hb := hg _ (List.mem_cons_of_mem _ (List.mem_cons_self ..))
      cases ha with
      | val _ ha => cases ha with
        | int _ ha => cases hb with
          | val _ hb => cases hb with
            | int _ hb => exact ⟨.int _ (prim_in ha hb), hk⟩
    · exact ⟨hv, he, hk⟩
  split
  · exact ⟨.con _ _ _ hg, hk⟩
  split
  · refine ⟨?_, he, .obs _ _ _ _ hv he hg hk⟩
    cases hl : t.args.getLast? with
    | none => exact hv
    | some a => exact rgT_args hv a (List.mem_of_getLast? hl)
  split
  · split
    · refine ⟨?_, .var _ _ _ (hg _ (List.mem_cons_self ..)) he, hk⟩
      unfold argK'
      cases hl : t.args[1]? with
      | none => exact hv
      | some a => exact rgT_args hv a (List.mem_of_getElem? hl)
    · exact ⟨hv, he, hk⟩
  · split
    · rename_i f hf
      exact ⟨hp f (List.mem_of_getElem? hf), rbind _ _ hg .nil, hk⟩
    · exact ⟨hv, he, hk⟩
theorem rgo (hp : ∀ f ∈ fs, rgT f.body) {t : TermG} {e : EnvG} {k : FrmG} (hv : rgT t) (he : RE e) (hk : RK k) : ∀ (tys : List Int) (qs : List TermG) (got : List BndG), (∀ a ∈ qs, rgT a) → (∀ b, b ∈ got → RB b) → RC (goG ds fs t e k got tys qs)
  | ty :: r, a :: q, got, ha, hg => by
    rw [goG]
    split
    · exact ⟨ha a (by simp), he, .app _ _ _ _ hv he hg hk⟩
    · refine rgo hp hv he hk r q _ (fun x hx => ha x (by simp [hx])) fun b hb => ?_
      rcases List.mem_append.1 hb with hb | hb
      · exact hg b hb
      · rw [List.mem_singleton.1 hb]; exact .thunk _ _ (ha a (by simp)) he
  | [], qs, got, ha, hg => by rw [goG]; · exact rperform hp hv he hk hg
                              · intro _ _ _ _ h; cases h
  | ty :: r, [], got, ha, hg => by rw [goG]; · exact rperform hp hv he hk hg
                                   · intro _ _ _ _ _ h; cases h
theorem rapply (hp : ∀ f ∈ fs, rgT f.body) {t : TermG} {e : EnvG} {got : List BndG} {k : FrmG} (hv : rgT t) (he : RE e) (hk : RK k) (hg : ∀ b, b ∈ got → RB b) : RC (applyG ds fs t e got k) :=
  rgo hp hv he hk _ _ got (fun a ha => rgT_args hv a (List.mem_of_mem_drop ha)) hg
theorem rarg {t : TermG} (hv : rgT t) (i : Nat) : rgT (argK' t i) := by
  unfold argK'
  cases hl : t.args[i]? with
  | none => exact hv
  | some a => exact rgT_args hv a (List.mem_of_getElem? hl)
theorem reval (hp : ∀ f ∈ fs, rgT f.body) {t : TermG} {e : EnvG} {k : FrmG} (hv : rgT t) (he : RE e) (hk : RK k) : RC (evalG ds fs t e k) := by
  unfold evalG
  split
  · cases hf : findV e t.name with
    | none => exact ⟨hv, he, hk⟩
    | some b =>
      have := rfindV he hf
      cases this with
      | val v h => exact ⟨h, hk⟩
      | thunk t' e' h1 h2 => exact ⟨h1, h2, hk⟩
  split
  · exact ⟨.int _ (rgT_n hv), hk⟩
  split
  · exact ⟨rarg hv 0, he, .tst _ _ _ hv he hk⟩
  split
  · exact ⟨rarg hv 0, he, .cas _ _ _ hv he hk⟩
  split
  · exact ⟨.obj _ _ hv he, hk⟩
  split
  · exact ⟨rarg hv 0, .lab _ _ _ hk he, hk⟩
  split
  · refine ⟨rarg hv 0, he, ?_⟩
    cases hf : findL e t.name with
    | none => exact .nil
    | some k' => exact rfindL he hf
  · exact rapply hp hv he hk (fun b h => by cases h)
theorem rpass (hp : ∀ f ∈ fs, rgT f.body) {v : ValG} {k : FrmG} (hv : RV v) (hk : RK k) : RO (passG ds fs v k) := by
  cases hk with
  | nil =>
    cases hv with
    | int n h => exact fun _ => h
    | con => exact fun h => by cases h
    | obj => exact fun h => by cases h
  | app t e got k h1 h2 h3 h4 =>
    rw [passG]
    split
    · exact fun h => by cases h
    · refine rapply hp h1 h2 h4 fun b hb => ?_
      rcases List.mem_append.1 hb with hb | hb
      · exact h3 b hb
      · rw [List.mem_singleton.1 hb]; exact .val _ hv
  | obs t e got k h1 h2 h3 h4 =>
    cases hv with
    | int n h => exact fun h => by cases h
    | con => exact fun h => by cases h
    | obj t' e' q1 q2 =>
      rw [passG]
      split
      · split
        · rename_i c hc
          exact ⟨rgT_cls q1 c (List.mem_of_getElem? hc), rbind _ _ h3 q2, h4⟩
        · exact fun h => by cases h
      · exact fun h => by cases h
  | cas t e k h1 h2 h4 =>
    cases hv with
    | int n h => exact fun h => by cases h
    | obj => exact fun h => by cases h
    | con ty n args q1 =>
      rw [passG]
      split
      · split
        · rename_i c hc
          exact ⟨rgT_cls h1 c (List.mem_of_getElem? hc), rbind _ _ q1 h2, h4⟩
        · exact fun h => by cases h
      · exact fun h => by cases h
  | tst t e k h1 h2 h4 =>
    cases hv with
    | con => exact fun h => by cases h
    | obj => exact fun h => by cases h
    | int n h =>
      rw [passG]
      split
      · exact ⟨h, rarg h1 1, h2, h4⟩
      · exact ⟨rarg h1 _, h2, h4⟩
def RM (m : MacG) : Prop := RC m.c ∧ (∀ n ∈ m.outs, I64 n) ∧ ∀ how val, m.fin = some (how, val) → how = 0 → I64 val
theorem rnext (hp : ∀ f ∈ fs, rgT f.body) (f : Nat) {m : MacG} (h : RM m) : RM (nextG ds fs f m) := by
  obtain ⟨h1, h2, h3⟩ := h
  cases h0 : m.fin with
  | some x =>
    have : nextG ds fs f m = m := by unfold nextG; rw [h0]
    rw [this]; exact ⟨h1, h2, h3⟩
  | none =>
    cases hc : m.c with
    | ev t e k =>
      by_cases hs : m.steps = f
      · rw [next_spent h0 hc hs]
        exact ⟨h1, h2, fun how val e0 e1 => by simp only [Option.some.injEq, Prod.mk.injEq] at e0; omega⟩
      · rw [next_ev h0 hc hs]
        rw [hc] at h1
        exact ⟨reval hp h1.1 h1.2.1 h1.2.2, h2, fun _ _ e0 => by cases e0⟩
    | gv v k =>
      have hh := h1
      rw [hc] at h1
      have g := rpass (ds := ds) hp h1.1 h1.2
      cases hq : passG ds fs v k with
      | go c => rw [next_go h0 hc hq]; rw [hq] at g; exact ⟨g, h2, fun _ _ e0 => by cases e0⟩
      | emit n c =>
        rw [next_emit h0 hc hq]; rw [hq] at g
        refine ⟨g.2, fun x hx => ?_, fun _ _ e0 => by cases e0⟩
        rcases List.mem_append.1 hx with hx | hx
        · exact h2 x hx
        · rw [List.mem_singleton.1 hx]; exact g.1
      | fin how val =>
        rw [next_end h0 hc hq]; rw [hq] at g
        exact ⟨hh, h2, fun a b e0 e1 => by simp only [Option.some.injEq, Prod.mk.injEq] at e0; rw [← e0.2]; exact g (by omega)⟩
theorem riter (hp : ∀ f ∈ fs, rgT f.body) (f : Nat) : ∀ (n : Nat) {m : MacG}, RM m → RM (iterG ds fs f n m)
  | 0, m, h => h
  | n + 1, m, h => by rw [iterG]; exact riter hp f n (rnext hp f h)
end
end Go.Proofs.YtkoachnlimebaaaGreatDoor
