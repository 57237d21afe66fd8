/- Plain laws on declarations: the two readings agree. -/
import Derived.Test.YtkoachnlimebaaaDoorCD6
set_option linter.unusedSimpArgs false
set_option linter.unusedVariables false
set_option maxRecDepth 20000
namespace Go.Proofs.YtkoachnlimebaaaDoor
open Go.AL

/-! ### Reserved words -/
/-! ### The last consumer -/
end Go.Proofs.YtkoachnlimebaaaDoor
/- Terms and programs: what the lists hold; validity in plain words. -/
set_option linter.unusedSimpArgs false
set_option linter.unusedVariables false
set_option maxRecDepth 20000
namespace Go.Proofs.YtkoachnlimebaaaDoor
open Go.AL

abbrev Bytes := List UInt8
mutual
inductive TermG where
  | mk (op n : Int) (name : Bytes) (ty : Int) (ha : Value) (args : List TermG) (hc : Value) (cls : List ClauseG)
inductive ClauseG where
  | mk (hn : Value) (names : List Bytes) (body : TermG)
end
def TermG.op : TermG → Int | .mk op .. => op
def TermG.n : TermG → Int | .mk _ n .. => n
def TermG.name : TermG → Bytes | .mk _ _ name .. => name
def TermG.ty : TermG → Int | .mk _ _ _ ty .. => ty
def TermG.ha : TermG → Value | .mk _ _ _ _ ha .. => ha
def TermG.args : TermG → List TermG | .mk _ _ _ _ _ args .. => args
def TermG.hc : TermG → Value | .mk _ _ _ _ _ _ hc _ => hc
def TermG.cls : TermG → List ClauseG | .mk _ _ _ _ _ _ _ cls => cls
def ClauseG.hn : ClauseG → Value | .mk hn .. => hn
def ClauseG.names : ClauseG → List Bytes | .mk _ names _ => names
def ClauseG.body : ClauseG → TermG | .mk _ _ body => body
theorem TermG.eta (t : TermG) : t = .mk t.op t.n t.name t.ty t.ha t.args t.hc t.cls := by cases t; rfl
theorem ClauseG.eta (c : ClauseG) : c = .mk c.hn c.names c.body := by cases c; rfl

/-! ### Sizes -/
mutual
def nodesT : TermG → Nat
  | .mk _ _ _ _ _ args _ cls => 1 + nodesA args + nodesC cls
def nodesA : List TermG → Nat
  | [] => 0
  | a :: r => nodesT a + nodesA r
def nodesC : List ClauseG → Nat
  | [] => 0
  | c :: r => nodesB c + nodesC r
def nodesB : ClauseG → Nat
  | .mk _ _ b => nodesT b
end
mutual
def depthT : TermG → Nat
  | .mk _ _ _ _ _ args _ cls => max (depthA args) (depthC cls) + 1
def depthA : List TermG → Nat
  | [] => 0
  | a :: r => max (depthT a) (depthA r)
def depthC : List ClauseG → Nat
  | [] => 0
  | c :: r => max (depthB c) (depthC r)
def depthB : ClauseG → Nat
  | .mk _ _ b => depthT b
end
theorem nodesT_eq (t : TermG) : nodesT t = 1 + nodesA t.args + nodesC t.cls := by cases t; rw [nodesT]; rfl
theorem nodesB_eq (c : ClauseG) : nodesB c = nodesT c.body := by cases c; rw [nodesB]; rfl
theorem depthT_eq (t : TermG) : depthT t = max (depthA t.args) (depthC t.cls) + 1 := by cases t; rw [depthT]; rfl
theorem depthB_eq (c : ClauseG) : depthB c = depthT c.body := by cases c; rw [depthB]; rfl
theorem nodesT_pos (t : TermG) : 0 < nodesT t := by rw [nodesT_eq]; omega
theorem nodesA_cons (a : TermG) (r : List TermG) : nodesA (a :: r) = nodesT a + nodesA r := by rw [nodesA]
theorem nodesC_cons (c : ClauseG) (r : List ClauseG) : nodesC (c :: r) = nodesT c.body + nodesC r := by rw [nodesC, nodesB_eq]
theorem nodesA_mem {a : TermG} : ∀ {l : List TermG}, a ∈ l → nodesT a ≤ nodesA l
  | [], h => by cases h
  | b :: r, h => by
    rw [nodesA]
    rcases List.mem_cons.1 h with rfl | h
    · omega
    · have := nodesA_mem h; omega
theorem nodesC_mem {c : ClauseG} : ∀ {l : List ClauseG}, c ∈ l → nodesT c.body ≤ nodesC l
  | [], h => by cases h
  | b :: r, h => by
    rw [nodesC, nodesB_eq]
    rcases List.mem_cons.1 h with rfl | h
    · omega
    · have := nodesC_mem h; omega
theorem args_lt {t a : TermG} (h : a ∈ t.args) : nodesT a < nodesT t := by have := nodesA_mem h; rw [nodesT_eq t]; omega
theorem cls_lt {t : TermG} {c : ClauseG} (h : c ∈ t.cls) : nodesT c.body < nodesT t := by have := nodesC_mem h; rw [nodesT_eq t]; omega

/-! ### In memory -/
mutual
def TermG.cs : TermG → List AV
  | .mk op n name ty ha args hc cls => [.v (.int .i64 op), .v (.int .i64 n), .v (.string (bs name)), .v (.int .i64 ty), .lst 6 ha (TermG.avs args), .lst 7 hc (ClauseG.avs cls)]
def TermG.avs : List TermG → List AV
  | [] => []
  | a :: r => .agg (TermG.cs a) :: TermG.avs r
def ClauseG.avs : List ClauseG → List AV
  | [] => []
  | c :: r => .agg (ClauseG.cs c) :: ClauseG.avs r
def ClauseG.cs : ClauseG → List AV
  | .mk hn names body => .lst 1 hn (names.map fun s => .v (.string (bs s))) :: TermG.cs body
end
def TermG.av (t : TermG) : AV := .agg t.cs
def ClauseG.av (c : ClauseG) : AV := .agg c.cs
theorem TermG.avs_eq : ∀ l : List TermG, TermG.avs l = l.map TermG.av
  | [] => by rw [TermG.avs]; rfl
  | a :: r => by rw [TermG.avs, TermG.avs_eq r]; rfl
theorem ClauseG.avs_eq : ∀ l : List ClauseG, ClauseG.avs l = l.map ClauseG.av
  | [] => by rw [ClauseG.avs]; rfl
  | a :: r => by rw [ClauseG.avs, ClauseG.avs_eq r]; rfl
theorem TermG.cs_eq (t : TermG) : t.cs = [.v (.int .i64 t.op), .v (.int .i64 t.n), .v (.string (bs t.name)), .v (.int .i64 t.ty), .lst 6 t.ha (t.args.map TermG.av), .lst 7 t.hc (t.cls.map ClauseG.av)] := by
  cases t; rw [TermG.cs, TermG.avs_eq, ClauseG.avs_eq]; rfl
theorem ClauseG.cs_eq (c : ClauseG) : c.cs = [.lst 1 c.hn (c.names.map fun s => .v (.string (bs s))), .v (.int .i64 c.body.op), .v (.int .i64 c.body.n), .v (.string (bs c.body.name)), .v (.int .i64 c.body.ty), .lst 6 c.body.ha (c.body.args.map TermG.av), .lst 7 c.body.hc (c.body.cls.map ClauseG.av)] := by
  cases c; rw [ClauseG.cs, TermG.cs_eq]; rfl
def termsAV (h : Value) (l : List TermG) : AV := .lst 6 h (l.map TermG.av)
structure ParamG where
  name : Bytes
  ty : Int
def ParamG.cs (p : ParamG) : List AV := [.v (.string (bs p.name)), .v (.int .i64 p.ty)]
def ParamG.av (p : ParamG) : AV := .agg p.cs
def paramsAV (h : Value) (l : List ParamG) : AV := .lst 2 h (l.map ParamG.av)
structure FunG where
  name : Bytes
  hp : Value
  params : List ParamG
  res : Int
  body : TermG
def FunG.cs (f : FunG) : List AV := [.v (.string (bs f.name)), paramsAV f.hp f.params, .v (.int .i64 f.res), .v (.int .i64 f.body.op), .v (.int .i64 f.body.n), .v (.string (bs f.body.name)), .v (.int .i64 f.body.ty), .lst 6 f.body.ha (f.body.args.map TermG.av), .lst 7 f.body.hc (f.body.cls.map ClauseG.av)]
def FunG.av (f : FunG) : AV := .agg f.cs
def funsAV (h : Value) (l : List FunG) : AV := .lst 9 h (l.map FunG.av)
structure ProgG where
  hd : Value
  ds : List DeclG
  hf : Value
  fs : List FunG
def ProgG.cs (p : ProgG) : List AV := [declsAV p.hd p.ds, funsAV p.hf p.fs]
def ProgG.av (p : ProgG) : AV := .agg p.cs

/-! ### Validity -/
def prodN (x : XtorG) : Nat := (x.args.filter fun a => !a.co).length
def dataB (ds : List DeclG) (t : Int) (co : Bool) : Bool := decide (t ≥ 1) && decide (t ≤ ds.length) && (codataB ds t == co)
def typB (ds : List DeclG) (t : Int) : Bool := decide (t ≥ 0) && decide (t ≤ ds.length)
def distinctF : List Bytes → List Bytes → Bool
  | _, [] => true
  | seen, s :: r => nameB s && !hasB seen s && distinctF (seen ++ [s]) r
def distinctB (l : List Bytes) : Bool := distinctF [] l
/-- The names of the clauses are those that their xtors want. -/
def clsNames : List XtorG → List ClauseG → Bool
  | [], [] => true
  | x :: xs, c :: cs => decide (c.names.length = prodN x) && distinctB c.names && clsNames xs cs
  | _, _ => false
/-- What a node wants, but for its subterms. -/
def nodeB (ds : List DeclG) (pf : List Nat) (V L : Bytes → Bool) (t : TermG) : Bool :=
  if t.op = 0 then decide (t.n = 0) && decide (t.ty = 0) && decide (t.args.length = 0) && decide (t.cls.length = 0) && V t.name
  else if t.op = 1 then decide (t.name = []) && decide (t.ty = 0) && decide (t.args.length = 0) && decide (t.cls.length = 0)
  else if t.op = 2 then decide (t.name = []) && decide (t.ty = 0) && decide (t.args.length = 2) && decide (t.cls.length = 0) && decide (0 ≤ t.n) && decide (t.n ≤ 6)
  else if t.op = 3 then decide (t.n = 0) && decide (t.name = []) && decide (t.ty = 0) && decide (t.args.length = 3) && decide (t.cls.length = 0)
  else if t.op = 4 then dataB ds t.ty false && hasN ds t.ty t.n && decide (t.name = []) && decide (t.cls.length = 0) && decide ((xtorsOf ds t.ty)[t.n.toNat]?.map prodN = some t.args.length)
  else if t.op = 5 then decide (t.n = 0) && decide (t.name = []) && decide (t.args.length = 1) && dataB ds t.ty false && clsNames (xtorsOf ds t.ty) t.cls
  else if t.op = 6 then dataB ds t.ty true && hasN ds t.ty t.n && decide (t.name = []) && decide (t.cls.length = 0) && decide (((xtorsOf ds t.ty)[t.n.toNat]?.map fun x => prodN x + 1) = some t.args.length)
  else if t.op = 7 then decide (t.n = 0) && decide (t.name = []) && decide (t.args.length = 0) && dataB ds t.ty true && clsNames (xtorsOf ds t.ty) t.cls
  else if t.op = 8 then decide (t.n = 0) && decide (t.args.length = 2) && decide (t.cls.length = 0) && nameB t.name && typB ds t.ty
  else if t.op = 9 then decide (0 ≤ t.n) && decide (t.name = []) && decide (t.ty = 0) && decide (t.cls.length = 0) && decide (pf[t.n.toNat]? = some t.args.length)
  else if t.op = 10 then decide (t.n = 0) && decide (t.name = []) && decide (t.ty = 0) && decide (t.args.length = 2) && decide (t.cls.length = 0)
  else if t.op = 11 then decide (t.n = 0) && decide (t.args.length = 1) && decide (t.cls.length = 0) && nameB t.name && typB ds t.ty
  else if t.op = 12 then decide (t.n = 0) && decide (t.args.length = 1) && decide (t.cls.length = 0) && L t.name && typB ds t.ty
  else false
def addP (V : Bytes → Bool) (s : Bytes) : Bytes → Bool := fun x => decide (x = s) || V x
def addL (V : Bytes → Bool) (l : List Bytes) : Bytes → Bool := fun x => hasB l x || V x
def argV (V : Bytes → Bool) (op : Int) (name : Bytes) (k : Nat) : Bytes → Bool := if op = 8 ∧ k = 1 then addP V name else V
def argL (L : Bytes → Bool) (op : Int) (name : Bytes) : Bytes → Bool := if op = 11 then addP L name else L
section
variable (ds : List DeclG) (pf : List Nat)
mutual
def validT (V L : Bytes → Bool) : TermG → Bool
  | .mk op n name ty ha args hc cls => nodeB ds pf V L (.mk op n name ty ha args hc cls) && (validA V L op name 0 args && validC V L cls)
def validA (V L : Bytes → Bool) (op : Int) (name : Bytes) (k : Nat) : List TermG → Bool
  | [] => true
  | a :: r => validT (argV V op name k) (argL L op name) a && validA V L op name (k + 1) r
def validC (V L : Bytes → Bool) : List ClauseG → Bool
  | [] => true
  | c :: r => validB1 V L c && validC V L r
def validB1 (V L : Bytes → Bool) : ClauseG → Bool
  | .mk _ names b => validT (addL V names) L b
end
end
theorem validT_eq (ds : List DeclG) (pf : List Nat) (V L : Bytes → Bool) (t : TermG) : validT ds pf V L t = (nodeB ds pf V L t && (validA ds pf V L t.op t.name 0 t.args && validC ds pf V L t.cls)) := by
  cases t; rw [validT]; rfl
theorem validC_cons (ds : List DeclG) (pf : List Nat) (V L : Bytes → Bool) (c : ClauseG) (r : List ClauseG) : validC ds pf V L (c :: r) = (validT ds pf (addL V c.names) L c.body && validC ds pf V L r) := by
  cases c; rw [validC, validB1]; rfl
theorem validA_cons (ds : List DeclG) (pf : List Nat) (V L : Bytes → Bool) (op : Int) (name : Bytes) (k : Nat) (a : TermG) (r : List TermG) : validA ds pf V L op name k (a :: r) = (validT ds pf (argV V op name k) (argL L op name) a && validA ds pf V L op name (k + 1) r) := by
  rw [validA]
end Go.Proofs.YtkoachnlimebaaaDoor
/- Typing, in plain words. -/
set_option linter.unusedSimpArgs false
set_option linter.unusedVariables false
set_option maxRecDepth 20000
namespace Go.Proofs.YtkoachnlimebaaaDoor
open Go.AL

def prodsX (x : XtorG) : List Int := (x.args.filter fun a => !a.co).map ArgG.typ
def xtorAt (ds : List DeclG) (t n : Int) : XtorG := ((xtorsOf ds t)[n.toNat]?).getD ⟨[], .slice none 0 0, []⟩
end Go.Proofs.YtkoachnlimebaaaDoor
