/- Plain laws on declarations: the two readings agree. -/
import Derived.Test.YtkoachnlimebaaaGreatDoorCD6
set_option linter.unusedSimpArgs false
set_option linter.unusedVariables false
set_option maxRecDepth 20000
namespace Go.Proofs.YtkoachnlimebaaaGreatDoor
open Go.AL

theorem rest_low (c : UInt8) : restB c = lowB c := by
  have : (c.toNat : Int) < 256 := by have := c.toNat_lt; omega
  simp only [restB, lowB, lowerC]
  by_cases h1 : (97 : Int) ≤ c.toNat <;> by_cases h2 : (c.toNat : Int) ≤ 122 <;> by_cases h3 : (c.toNat : Int) < 48 <;> by_cases h4 : (c.toNat : Int) > 57 <;> simp [h1, h2, h3, h4] <;> omega

theorem all_low (l : List UInt8) : l.all restB = l.all lowB := by
  induction l with
  | nil => rfl
  | cons c l ih => simp only [List.all_cons, rest_low, ih]

theorem xtorName_same (s : List UInt8) : xtorNameB s = rxtorNameB s := by
  cases s with
  | nil => rfl
  | cons c r => simp only [xtorNameB, rxtorNameB, all_low]

/-! ### Reserved words -/
theorem cont_cons (b : UInt8) (l sub : List UInt8) : Lib.contains (b :: l) sub = (sub.isPrefixOf (b :: l) || Lib.contains l sub) := by
  have hg := Lib.index_ge l sub
  unfold Lib.contains
  rw [Lib.index]
  split
  · rename_i h; simp [h]
  · rename_i h
    split
    · rename_i h2; simp at h2; simp [h, h2]
    · rename_i h2
      simp at h2
      have h1 : (0 : Int) ≤ Lib.index l sub + 1 := by omega
      have h3 : (0 : Int) ≤ Lib.index l sub := by omega
      simp [h, h1, h3]
theorem cont_nil (t : List UInt8) : Lib.contains [] (32 :: t) = false := rfl
theorem cont_skip (t T : List UInt8) : ∀ (w : List UInt8), (32 : UInt8) ∉ w → Lib.contains (w ++ T) (32 :: t) = Lib.contains T (32 :: t)
  | [], _ => rfl
  | c :: w, h => by
    have h1 : (32 : UInt8) ≠ c := fun e => h (by simp [e])
    rw [List.cons_append, cont_cons, cont_skip t T w (fun hw => h (by simp [hw]))]
    simp [List.isPrefixOf, h1]
theorem pref_word (T : List UInt8) : ∀ (s w : List UInt8), (32 : UInt8) ∉ s → (32 : UInt8) ∉ w → (s ++ [32]).isPrefixOf (w ++ 32 :: T) = decide (s = w)
  | [], [], _, _ => by simp [List.isPrefixOf]
  | [], c :: w, _, h => by
    have h1 : (32 : UInt8) ≠ c := fun e => h (by simp [e])
    simp [List.isPrefixOf, h1]
  | c :: s, [], h, _ => by
    have h1 : c ≠ 32 := fun e => h (by simp [e])
    simp [List.isPrefixOf, h1]
  | c :: s, e :: w, h, h' => by
    have ih := pref_word T s w (fun x => h (by simp [x])) (fun x => h' (by simp [x]))
    rw [List.cons_append, List.cons_append, List.isPrefixOf, ih]
    by_cases hc : c = e <;> simp [hc]
def tx : List (List UInt8) → List UInt8
  | [] => [32]
  | w :: ws => 32 :: (w ++ tx ws)
theorem tx_head (ws : List (List UInt8)) : ∃ T, tx ws = 32 :: T := by cases ws <;> exact ⟨_, rfl⟩
theorem cont_tx (s : List UInt8) (hs : (32 : UInt8) ∉ s) : ∀ (ws : List (List UInt8)), (∀ w ∈ ws, (32 : UInt8) ∉ w) → Lib.contains (tx ws) (32 :: (s ++ [32])) = ws.any fun w => decide (s = w)
  | [], _ => by
    rw [tx, cont_cons, cont_nil]
    cases s <;> simp [List.isPrefixOf]
  | w :: ws, h => by
    obtain ⟨T, hT⟩ := tx_head ws
    have hw := h w (by simp)
    rw [tx, cont_cons, cont_skip _ _ w hw, cont_tx s hs ws (fun v hv => h v (by simp [hv])), List.any_cons]
    congr 1
    rw [List.isPrefixOf, hT, pref_word T s w hs hw]
    simp
theorem reserved_tx : reserved = tx words := by kernel_rfl
theorem words_ok : ∀ w ∈ words, (32 : UInt8) ∉ w := by decide +kernel
theorem restB_no (c : UInt8) (h : restB c = true) : c ≠ 32 := by rintro rfl; revert h; decide +kernel

theorem name_same (s : List UInt8) : nameB s = rnameB s := by
  cases s with
  | nil => rfl
  | cons c r =>
    simp only [nameB, rnameB, List.all_cons]
    by_cases hall : r.all restB = true
    · by_cases hc : lowerC c = true
      · have hr : restB c = true := by simp only [restB, hc, Bool.true_or]
        have hno : (32 : UInt8) ∉ c :: r := by
          intro hm
          rcases List.mem_cons.1 hm with e | hm
          · exact restB_no c hr e.symm
          · exact restB_no 32 (List.all_eq_true.1 hall 32 hm) rfl
        have hcont : Lib.contains reserved ([32] ++ c :: r ++ [32]) = resB (c :: r) := by
          rw [reserved_tx]
          exact cont_tx (c :: r) hno words words_ok
        rw [hcont, hr, hc, ← all_low, hall]
        simp only [lowerC, Bool.and_eq_true, decide_eq_true_eq] at hc
        simp [hc.1, hc.2]
      · have hc' : lowerC c = false := by simpa using hc
        rw [hc']
        simp only [lowerC, Bool.and_eq_false_iff, decide_eq_false_iff_not] at hc'
        rcases hc' with h | h
        · simp [h]
        · simp [h]
    · have ha : r.all restB = false := by simpa using hall
      rw [← all_low, ha]
      simp

theorem xtor_same (n : Nat) (seen : List (List UInt8)) (x : XtorG) : xtorB n seen x = rxtorB n seen x := by
  simp only [xtorB, rxtorB, xtorName_same]
  cases rxtorNameB x.name <;> cases hasB seen x.name <;> cases decide ((x.args.length : Int) > 6) <;> simp
theorem fits_same (n : Nat) : ∀ (xs : List XtorG) (seen : List (List UInt8)), fitsAll n seen xs = rfitsAll n seen xs
  | [], _ => rfl
  | x :: r, seen => by simp only [fitsAll, rfitsAll, xtor_same, fits_same n r]
theorem has_same (names : List (List UInt8)) (s : List UInt8) : hasB names s = names.any fun e => decide (e = s) := by
  simp only [hasB, eq_comm]
theorem decl_same (names : List (List UInt8)) (d : DeclG) : declB names d = rdeclB names d := by
  simp only [declB, rdeclB, name_same, has_same]
  cases rnameB d.name <;> cases (names.any fun e => decide (e = d.name)) <;> simp
theorem from_same (n : Nat) : ∀ (l : List DeclG) (names seen : List (List UInt8)), validFrom n names seen l = risFrom n names seen l
  | [], _, _ => rfl
  | d :: r, names, seen => by
    simp only [validFrom, risFrom, decl_same, fits_same]
    cases rfitsAll n seen d.xtors with
    | none => rfl
    | some s => simp only [from_same n r]
theorem valid_same (l : List DeclG) : validB l = risB l := by simp only [validB, risB, from_same]

/-! ### The last consumer -/
theorem all_snd {α : Type} (f : α → Bool) (l : List α) (k : Nat) : (l.zipIdx k).all (fun p => f p.1) = l.all f := by
  induction l generalizing k with
  | nil => rfl
  | cons a l ih => simp only [List.zipIdx_cons, List.all_cons, ih]
theorem resOk_snoc (i : List ArgG) (a : ArgG) : resOk (i ++ [a]) = (i.all (fun a => !a.co) && a.co) := by
  have e : ((i.length : Int) = ((i ++ [a]).length : Int) - 1) = True := by simp
  simp only [resOk, List.zipIdx_append, List.all_append, List.zipIdx_cons, List.zipIdx_nil, List.all_cons, List.all_nil, Bool.and_true, Nat.zero_add, e, decide_true, beq_true]
  congr 1
  rw [← all_snd (fun a : ArgG => !a.co) i 0, Bool.eq_iff_iff, List.all_eq_true, List.all_eq_true]
  have hp : ∀ p ∈ i.zipIdx, (p.1.co == decide ((p.2 : Int) = ((i ++ [a]).length : Int) - 1)) = !p.1.co := by
    intro p hp
    rw [List.mem_zipIdx_iff_getElem?] at hp
    have hl : p.2 < i.length := by
      rcases Nat.lt_or_ge p.2 i.length with h | h
      · exact h
      · rw [List.getElem?_eq_none h] at hp; cases hp
    have : ¬ ((p.2 : Int) = ((i ++ [a]).length : Int) - 1) := by simp; omega
    rw [decide_eq_false this]; cases p.1.co <;> rfl
  constructor
  · intro h p hq; rw [← hp p hq]; exact h p hq
  · intro h p hq; rw [hp p hq]; exact h p hq
theorem consN_zero (l : List ArgG) : l.all (fun a => !a.co) = decide (consN l = 0) := by
  induction l with
  | nil => rfl
  | cons a l ih =>
    rw [consN_cons, List.all_cons, ih]
    cases a.co <;> simp
theorem consN_app (l r : List ArgG) : consN (l ++ r) = consN l + consN r := by simp [consN]
theorem ends_same (args : List ArgG) : (resultG args).isSome = endsB args := by
  rcases List.eq_nil_or_concat args with rfl | ⟨i, a, rfl⟩
  · rfl
  · simp only [List.concat_eq_append]
    have h1 : (i ++ [a]).getLast? = some a := by simp
    simp only [resultG, endsB, resOk_snoc, h1, Option.map_some, Option.getD_some, consN_app, consN_zero]
    cases hc : a.co
    · simp [hc]
    · have : consN [a] = 1 := by simp [consN, hc]
      rw [this]
      by_cases h : consN i = 0
      · simp [h]
      · simp [h]; omega
theorem sourceX_same (co : Bool) (x : XtorG) : sourceX co x = rsourceX co x := by
  cases co
  · simp only [sourceX, rsourceX, Bool.false_and, Bool.not_false, Bool.true_and, Bool.false_or, consN_zero, Bool.false_eq_true, if_false]
    by_cases h : consN x.args = 0
    · simp [h]
    · simp [h]; omega
  · simp only [sourceX, rsourceX, if_true, ends_same]
    simp
theorem source_same (l : List DeclG) : sourceB l = rsourceB l := by
  have : sourceX = rsourceX := by funext c x; exact sourceX_same c x
  simp only [sourceB, rsourceB, this]

end Go.Proofs.YtkoachnlimebaaaGreatDoor
/- Terms and programs: what the lists hold; validity in plain words. -/
set_option linter.unusedSimpArgs false
set_option linter.unusedVariables false
set_option maxRecDepth 20000
namespace Go.Proofs.YtkoachnlimebaaaGreatDoor
open Go.AL

abbrev Bytes := List UInt8
mutual
inductive TermG where
  | mk (op n : Int) (name : Bytes) (ty : Int) (ha : Value) (args : List TermG) (hc : Value) (cls : List ClauseG)
inductive ClauseG where
  | mk (hn : Value) (names : List Bytes) (body : TermG)
end
def TermG.op : TermG → Int | .mk op .. => op
def TermG.n : TermG → Int | .mk _ n .. => n
def TermG.name : TermG → Bytes | .mk _ _ name .. => name
def TermG.ty : TermG → Int | .mk _ _ _ ty .. => ty
def TermG.ha : TermG → Value | .mk _ _ _ _ ha .. => ha
def TermG.args : TermG → List TermG | .mk _ _ _ _ _ args .. => args
def TermG.hc : TermG → Value | .mk _ _ _ _ _ _ hc _ => hc
def TermG.cls : TermG → List ClauseG | .mk _ _ _ _ _ _ _ cls => cls
def ClauseG.hn : ClauseG → Value | .mk hn .. => hn
def ClauseG.names : ClauseG → List Bytes | .mk _ names _ => names
def ClauseG.body : ClauseG → TermG | .mk _ _ body => body
/-! ### Sizes -/
mutual
def nodesT : TermG → Nat
  | .mk _ _ _ _ _ args _ cls => 1 + nodesA args + nodesC cls
def nodesA : List TermG → Nat
  | [] => 0
  | a :: r => nodesT a + nodesA r
def nodesC : List ClauseG → Nat
  | [] => 0
  | c :: r => nodesB c + nodesC r
def nodesB : ClauseG → Nat
  | .mk _ _ b => nodesT b
end
mutual
def depthT : TermG → Nat
  | .mk _ _ _ _ _ args _ cls => max (depthA args) (depthC cls) + 1
def depthA : List TermG → Nat
  | [] => 0
  | a :: r => max (depthT a) (depthA r)
def depthC : List ClauseG → Nat
  | [] => 0
  | c :: r => max (depthB c) (depthC r)
def depthB : ClauseG → Nat
  | .mk _ _ b => depthT b
end
theorem nodesT_eq (t : TermG) : nodesT t = 1 + nodesA t.args + nodesC t.cls := by cases t; rw [nodesT]; rfl
theorem nodesB_eq (c : ClauseG) : nodesB c = nodesT c.body := by cases c; rw [nodesB]; rfl
theorem depthT_eq (t : TermG) : depthT t = max (depthA t.args) (depthC t.cls) + 1 := by cases t; rw [depthT]; rfl
theorem depthB_eq (c : ClauseG) : depthB c = depthT c.body := by cases c; rw [depthB]; rfl
theorem nodesT_pos (t : TermG) : 0 < nodesT t := by rw [nodesT_eq]; omega
theorem nodesA_cons (a : TermG) (r : List TermG) : nodesA (a :: r) = nodesT a + nodesA r := by rw [nodesA]
theorem nodesC_cons (c : ClauseG) (r : List ClauseG) : nodesC (c :: r) = nodesT c.body + nodesC r := by rw [nodesC, nodesB_eq]
theorem nodesA_mem {a : TermG} : ∀ {l : List TermG}, a ∈ l → nodesT a ≤ nodesA l
  | [], h => by cases h
  | b :: r, h => by
    rw [nodesA]
    rcases List.mem_cons.1 h with rfl | h
    · omega
    · have := nodesA_mem h; omega
theorem nodesC_mem {c : ClauseG} : ∀ {l : List ClauseG}, c ∈ l → nodesT c.body ≤ nodesC l
  | [], h => by cases h
  | b :: r, h => by
    rw [nodesC, nodesB_eq]
    rcases List.mem_cons.1 h with rfl | h
    · omega
    · have := nodesC_mem h; omega
theorem args_lt {t a : TermG} (h : a ∈ t.args) : nodesT a < nodesT t := by have := nodesA_mem h; rw [nodesT_eq t]; omega
theorem cls_lt {t : TermG} {c : ClauseG} (h : c ∈ t.cls) : nodesT c.body < nodesT t := by have := nodesC_mem h; rw [nodesT_eq t]; omega

/-! ### In memory -/
mutual
def TermG.cs : TermG → List AV
  | .mk op n name ty ha args hc cls => [.v (.int .i64 op), .v (.int .i64 n), .v (.string (bs name)), .v (.int .i64 ty), .lst 6 ha (TermG.avs args), .lst 7 hc (ClauseG.avs cls)]
def TermG.avs : List TermG → List AV
  | [] => []
  | a :: r => .agg (TermG.cs a) :: TermG.avs r
def ClauseG.avs : List ClauseG → List AV
  | [] => []
  | c :: r => .agg (ClauseG.cs c) :: ClauseG.avs r
def ClauseG.cs : ClauseG → List AV
  | .mk hn names body => .lst 1 hn (names.map fun s => .v (.string (bs s))) :: TermG.cs body
end
def TermG.av (t : TermG) : AV := .agg t.cs
def ClauseG.av (c : ClauseG) : AV := .agg c.cs
theorem TermG.avs_eq : ∀ l : List TermG, TermG.avs l = l.map TermG.av
  | [] => by rw [TermG.avs]; rfl
  | a :: r => by rw [TermG.avs, TermG.avs_eq r]; rfl
theorem ClauseG.avs_eq : ∀ l : List ClauseG, ClauseG.avs l = l.map ClauseG.av
  | [] => by rw [ClauseG.avs]; rfl
  | a :: r => by rw [ClauseG.avs, ClauseG.avs_eq r]; rfl
theorem TermG.cs_eq (t : TermG) : t.cs = [.v (.int .i64 t.op), .v (.int .i64 t.n), .v (.string (bs t.name)), .v (.int .i64 t.ty), .lst 6 t.ha (t.args.map TermG.av), .lst 7 t.hc (t.cls.map ClauseG.av)] := by
  cases t; rw [TermG.cs, TermG.avs_eq, ClauseG.avs_eq]; rfl
theorem ClauseG.cs_eq (c : ClauseG) : c.cs = [.lst 1 c.hn (c.names.map fun s => .v (.string (bs s))), .v (.int .i64 c.body.op), .v (.int .i64 c.body.n), .v (.string (bs c.body.name)), .v (.int .i64 c.body.ty), .lst 6 c.body.ha (c.body.args.map TermG.av), .lst 7 c.body.hc (c.body.cls.map ClauseG.av)] := by
  cases c; rw [ClauseG.cs, TermG.cs_eq]; rfl
def termsAV (h : Value) (l : List TermG) : AV := .lst 6 h (l.map TermG.av)
structure ParamG where
  name : Bytes
  ty : Int
def ParamG.cs (p : ParamG) : List AV := [.v (.string (bs p.name)), .v (.int .i64 p.ty)]
def ParamG.av (p : ParamG) : AV := .agg p.cs
def paramsAV (h : Value) (l : List ParamG) : AV := .lst 2 h (l.map ParamG.av)
structure FunG where
  name : Bytes
  hp : Value
  params : List ParamG
  res : Int
  body : TermG
def FunG.cs (f : FunG) : List AV := [.v (.string (bs f.name)), paramsAV f.hp f.params, .v (.int .i64 f.res), .v (.int .i64 f.body.op), .v (.int .i64 f.body.n), .v (.string (bs f.body.name)), .v (.int .i64 f.body.ty), .lst 6 f.body.ha (f.body.args.map TermG.av), .lst 7 f.body.hc (f.body.cls.map ClauseG.av)]
def FunG.av (f : FunG) : AV := .agg f.cs
def funsAV (h : Value) (l : List FunG) : AV := .lst 9 h (l.map FunG.av)
structure ProgG where
  hd : Value
  ds : List DeclG
  hf : Value
  fs : List FunG
def ProgG.cs (p : ProgG) : List AV := [declsAV p.hd p.ds, funsAV p.hf p.fs]
def ProgG.av (p : ProgG) : AV := .agg p.cs

/-! ### Validity -/
def prodN (x : XtorG) : Nat := (x.args.filter fun a => !a.co).length
def dataB (ds : List DeclG) (t : Int) (co : Bool) : Bool := decide (t ≥ 1) && decide (t ≤ ds.length) && (codataB ds t == co)
def typB (ds : List DeclG) (t : Int) : Bool := decide (t ≥ 0) && decide (t ≤ ds.length)
def distinctF : List Bytes → List Bytes → Bool
  | _, [] => true
  | seen, s :: r => nameB s && !hasB seen s && distinctF (seen ++ [s]) r
def distinctB (l : List Bytes) : Bool := distinctF [] l
/-- The names of the clauses are those that their xtors want. -/
def clsNames : List XtorG → List ClauseG → Bool
  | [], [] => true
  | x :: xs, c :: cs => decide (c.names.length = prodN x) && distinctB c.names && clsNames xs cs
  | _, _ => false
/-- What a node wants, but for its subterms. -/
def nodeB (ds : List DeclG) (pf : List Nat) (V L : Bytes → Bool) (t : TermG) : Bool :=
  if t.op = 0 then decide (t.n = 0) && decide (t.ty = 0) && decide (t.args.length = 0) && decide (t.cls.length = 0) && V t.name
  else if t.op = 1 then decide (t.name = []) && decide (t.ty = 0) && decide (t.args.length = 0) && decide (t.cls.length = 0)
  else if t.op = 2 then decide (t.name = []) && decide (t.ty = 0) && decide (t.args.length = 2) && decide (t.cls.length = 0) && decide (0 ≤ t.n) && decide (t.n ≤ 6)
  else if t.op = 3 then decide (t.n = 0) && decide (t.name = []) && decide (t.ty = 0) && decide (t.args.length = 3) && decide (t.cls.length = 0)
  else if t.op = 4 then dataB ds t.ty false && hasN ds t.ty t.n && decide (t.name = []) && decide (t.cls.length = 0) && decide ((xtorsOf ds t.ty)[t.n.toNat]?.map prodN = some t.args.length)
  else if t.op = 5 then decide (t.n = 0) && decide (t.name = []) && decide (t.args.length = 1) && dataB ds t.ty false && clsNames (xtorsOf ds t.ty) t.cls
  else if t.op = 6 then dataB ds t.ty true && hasN ds t.ty t.n && decide (t.name = []) && decide (t.cls.length = 0) && decide (((xtorsOf ds t.ty)[t.n.toNat]?.map fun x => prodN x + 1) = some t.args.length)
  else if t.op = 7 then decide (t.n = 0) && decide (t.name = []) && decide (t.args.length = 0) && dataB ds t.ty true && clsNames (xtorsOf ds t.ty) t.cls
  else if t.op = 8 then decide (t.n = 0) && decide (t.args.length = 2) && decide (t.cls.length = 0) && nameB t.name && typB ds t.ty
  else if t.op = 9 then decide (0 ≤ t.n) && decide (t.name = []) && decide (t.ty = 0) && decide (t.cls.length = 0) && decide (pf[t.n.toNat]? = some t.args.length)
  else if t.op = 10 then decide (t.n = 0) && decide (t.name = []) && decide (t.ty = 0) && decide (t.args.length = 2) && decide (t.cls.length = 0)
  else if t.op = 11 then decide (t.n = 0) && decide (t.args.length = 1) && decide (t.cls.length = 0) && nameB t.name && typB ds t.ty
  else if t.op = 12 then decide (t.n = 0) && decide (t.args.length = 1) && decide (t.cls.length = 0) && L t.name && typB ds t.ty
  else false
def addP (V : Bytes → Bool) (s : Bytes) : Bytes → Bool := fun x => decide (x = s) || V x
def addL (V : Bytes → Bool) (l : List Bytes) : Bytes → Bool := fun x => hasB l x || V x
def argV (V : Bytes → Bool) (op : Int) (name : Bytes) (k : Nat) : Bytes → Bool := if op = 8 ∧ k = 1 then addP V name else V
def argL (L : Bytes → Bool) (op : Int) (name : Bytes) : Bytes → Bool := if op = 11 then addP L name else L
section
variable (ds : List DeclG) (pf : List Nat)
mutual
def validT (V L : Bytes → Bool) : TermG → Bool
  | .mk op n name ty ha args hc cls => nodeB ds pf V L (.mk op n name ty ha args hc cls) && (validA V L op name 0 args && validC V L cls)
def validA (V L : Bytes → Bool) (op : Int) (name : Bytes) (k : Nat) : List TermG → Bool
  | [] => true
  | a :: r => validT (argV V op name k) (argL L op name) a && validA V L op name (k + 1) r
def validC (V L : Bytes → Bool) : List ClauseG → Bool
  | [] => true
  | c :: r => validB1 V L c && validC V L r
def validB1 (V L : Bytes → Bool) : ClauseG → Bool
  | .mk _ names b => validT (addL V names) L b
end
end
theorem validT_eq (ds : List DeclG) (pf : List Nat) (V L : Bytes → Bool) (t : TermG) : validT ds pf V L t = (nodeB ds pf V L t && (validA ds pf V L t.op t.name 0 t.args && validC ds pf V L t.cls)) := by
  cases t; rw [validT]; rfl
theorem validC_cons (ds : List DeclG) (pf : List Nat) (V L : Bytes → Bool) (c : ClauseG) (r : List ClauseG) : validC ds pf V L (c :: r) = (validT ds pf (addL V c.names) L c.body && validC ds pf V L r) := by
  cases c; rw [validC, validB1]; rfl
theorem validA_cons (ds : List DeclG) (pf : List Nat) (V L : Bytes → Bool) (op : Int) (name : Bytes) (k : Nat) (a : TermG) (r : List TermG) : validA ds pf V L op name k (a :: r) = (validT ds pf (argV V op name k) (argL L op name) a && validA ds pf V L op name (k + 1) r) := by
  rw [validA]
end Go.Proofs.YtkoachnlimebaaaGreatDoor
/- Typing, in plain words. -/
set_option linter.unusedSimpArgs false
set_option linter.unusedVariables false
set_option maxRecDepth 20000
namespace Go.Proofs.YtkoachnlimebaaaGreatDoor
open Go.AL

def prodsX (x : XtorG) : List Int := (x.args.filter fun a => !a.co).map ArgG.typ
def xtorAt (ds : List DeclG) (t n : Int) : XtorG := ((xtorsOf ds t)[n.toNat]?).getD ⟨[], .slice none 0 0, []⟩
end Go.Proofs.YtkoachnlimebaaaGreatDoor
