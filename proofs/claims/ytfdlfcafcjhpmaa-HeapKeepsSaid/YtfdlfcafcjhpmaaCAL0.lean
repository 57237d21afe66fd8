/- The core of an own logic: symbolic execution of the model's code over values that carry their contents. Lemmas only. -/
import Derived.WalkKit
namespace Go.AL

abbrev Mem := Nat → Nat → Option Value

inductive AV where
  | v (x : Value)
  | lst (sz : Nat) (h : Value) (xs : List AV)
  | ref (p : Value) (cs : List AV)
  | agg (cs : List AV)
  | tup (l : List AV)
  | ifc (t : TypeId) (a : AV)
  | fn (f : Fn) (first caps : List AV)

mutual
def AV.val : AV → Value
  | .v x => x
  | .lst _ h _ => h
  | .ref p _ => p
  | .agg cs => .agg (AV.vals cs).toArray
  | .tup l => .tuple (AV.vals l).toArray
  | .ifc t a => .iface t a.val
  | .fn f a b => .func f (AV.vals a).toArray (AV.vals b).toArray
def AV.vals : List AV → List Value
  | [] => []
  | a :: l => a.val :: AV.vals l
end

theorem AV.vals_eq (l : List AV) : AV.vals l = l.map AV.val := by
  induction l with
  | nil => rfl
  | cons a l ih => simp [AV.vals, ih]

theorem AV.vals_length (l : List AV) : (AV.vals l).length = l.length := by simp [AV.vals_eq]
theorem AV.vals_getElem? (l : List AV) (i : Nat) : (AV.vals l)[i]? = (l[i]?).map AV.val := by simp [AV.vals_eq]

/-- The cells of a value. -/
def AV.cells : AV → List AV
  | .agg cs => cs
  | .v (.agg cs) => cs.toList.map AV.v
  | a => [a]

/-- A slice's header over rows that are readable. -/
def Hdr (m : Mem) (sz : Nat) (h : Value) (vs : List Value) : Prop :=
  ∃ a cap, h = .slice a vs.length cap ∧ vs.length ≤ cap ∧ cap ≤ maxLen ∧ (∀ v ∈ vs, v.cells.size = sz) ∧
    (vs ≠ [] → ∃ b off, a = some ⟨b, off, none⟩ ∧ ∀ (i : Nat) (v : Value), vs[i]? = some v → ∀ (j : Nat) (x : Value), v.cells[j]? = some x → m b (off + i * sz + j) = some x)

def RefOk (m : Mem) (p : Value) (vs : List Value) : Prop :=
  ∃ b off, p = .pointer (some ⟨b, off, none⟩) ∧ ∀ (j : Nat) (x : Value), vs[j]? = some x → m b (off + j) = some x

mutual
def AV.ok (m : Mem) : AV → Prop
  | .v _ => True
  | .lst sz h xs => Hdr m sz h (AV.vals xs) ∧ AV.oks m xs
  | .ref p cs => RefOk m p (AV.vals cs) ∧ AV.oks m cs
  | .agg cs => AV.oks m cs
  | .tup l => AV.oks m l
  | .ifc _ a => a.ok m
  | .fn _ a b => AV.oks m a ∧ AV.oks m b
def AV.oks (m : Mem) : List AV → Prop
  | [] => True
  | a :: l => a.ok m ∧ AV.oks m l
end

theorem AV.oks_iff (m : Mem) (l : List AV) : AV.oks m l ↔ ∀ a ∈ l, a.ok m := by
  induction l with
  | nil => simp [AV.oks]
  | cons a l ih => simp [AV.oks, ih]

def Mem.le (m m' : Mem) : Prop := ∀ b o x, m b o = some x → m' b o = some x
theorem Mem.le_refl (m : Mem) : m.le m := fun _ _ _ h => h
theorem Mem.le_trans {a b c : Mem} (h : a.le b) (k : b.le c) : a.le c := fun _ _ _ x => k _ _ _ (h _ _ _ x)

theorem Hdr.mono {m m' : Mem} (hm : m.le m') {sz h vs} (k : Hdr m sz h vs) : Hdr m' sz h vs := by
  obtain ⟨a, cap, e1, e2, e3, e4, e5⟩ := k
  refine ⟨a, cap, e1, e2, e3, e4, fun hne => ?_⟩
  obtain ⟨b, off, ea, hr⟩ := e5 hne
  exact ⟨b, off, ea, fun i v hv j x hx => hm _ _ _ (hr i v hv j x hx)⟩

theorem RefOk.mono {m m' : Mem} (hm : m.le m') {p vs} (k : RefOk m p vs) : RefOk m' p vs := by
  obtain ⟨b, off, e1, e2⟩ := k
  exact ⟨b, off, e1, fun j x hx => hm _ _ _ (e2 j x hx)⟩

mutual
theorem AV.ok_mono {m m' : Mem} (hm : m.le m') : ∀ (a : AV), a.ok m → a.ok m'
  | .v _, _ => trivial
  | .lst _ _ xs, h => ⟨h.1.mono hm, AV.oks_mono hm xs h.2⟩
  | .ref _ cs, h => ⟨h.1.mono hm, AV.oks_mono hm cs h.2⟩
  | .agg cs, h => AV.oks_mono hm cs h
  | .tup cs, h => AV.oks_mono hm cs h
  | .ifc _ a, h => AV.ok_mono hm a h
  | .fn _ a b, h => ⟨AV.oks_mono hm a h.1, AV.oks_mono hm b h.2⟩
theorem AV.oks_mono {m m' : Mem} (hm : m.le m') : ∀ (l : List AV), AV.oks m l → AV.oks m' l
  | [], _ => trivial
  | a :: l, h => ⟨AV.ok_mono hm a h.1, AV.oks_mono hm l h.2⟩
end

/-- What is tracked of the heap: variables, maps, and slices whose spare room is this call's own. -/
structure Hp where
  blk : Nat → Option (TypeId × List AV)
  mp : Nat → Option (List (Value × AV))
  sp : List (TypeId × Nat × Value)
  gl : List (Nat × List AV)

structure Fr where
  m : Mem
  w : World
  base : Nat

structure Lo (F : Fr) (w : World) : Prop where
  os : w.os = F.w.os
  tape : w.tape = F.w.tape
  output : w.output = F.w.output
  size : F.w.heap.size ≤ w.heap.size
  low : ∀ k, k < F.base → w.heap[k]? = F.w.heap[k]?
  bs : F.base ≤ w.heap.size

/-- An own spare: the header is nil, or it begins a plain row of the call's own whose places from its end on are published nowhere. -/
def Own (base : Nat) (m : Mem) (w : World) (e : TypeId) (sz : Nat) (h : Value) : Prop :=
  h = .slice none 0 0 ∨
  ∃ b n cap cur, h = .slice (some ⟨b, 0, none⟩) n cap ∧ base ≤ b ∧ w.heap[b]? = some (.cells cur e (0, 0)) ∧ cur.size = cap * sz ∧ n ≤ cap ∧ cap ≤ maxLen ∧
    ∀ o, n * sz ≤ o → m b o = none

def blockOf : Value → Option Nat
  | .slice (some a) _ _ => some a.block
  | _ => none

structure HpOk (base : Nat) (hp : Hp) (m : Mem) (w : World) : Prop where
  mem : ∀ b o x, m b o = some x → w.cell? ⟨b, o, none⟩ = some x
  blk : ∀ b T cs, hp.blk b = some (T, cs) → base ≤ b ∧ w.heap[b]? = some (.cells (AV.vals cs).toArray T (0, 0)) ∧ AV.oks m cs ∧ ∀ o, m b o = none
  mp : ∀ b es, hp.mp b = some es → base ≤ b ∧ (∃ (en : Array MapEntry) (clock : Nat), w.heap[b]? = some (.map en clock) ∧ en.toList.map (fun e => (e.key, e.val)) = es.map (fun p => (p.1, p.2.val))) ∧ AV.oks m (es.map (·.2))
  sp : ∀ e sz h, (e, sz, h) ∈ hp.sp → Own base m w e sz h ∧ ∀ b, blockOf h = some b → hp.blk b = none
  spd : hp.sp.Pairwise (fun p q => ∀ b, blockOf p.2.2 = some b → blockOf q.2.2 ≠ some b)
  gl : ∀ g cs, (g, cs) ∈ hp.gl → RefOk m (.pointer (some ⟨g, 0, none⟩)) (AV.vals cs) ∧ AV.oks m cs

structure St where
  n : Nat
  sl : Nat → Option AV
  hp : Hp

def St.put (st : St) (d : Nat) (x : AV) : St := { st with sl := fun i => if i = d then some x else st.sl i }
def St.putO (st : St) (d : Option Nat) (x : AV) : St := match d with | some d => st.put d x | none => st
def St.setHp (st : St) (hp : Hp) : St := { st with hp := hp }

@[go_sem] theorem St.put_sl (st : St) (d : Nat) (x : AV) (i : Nat) : (st.put d x).sl i = if i = d then some x else st.sl i := rfl
@[go_sem] theorem St.put_hp (st : St) (d : Nat) (x : AV) : (st.put d x).hp = st.hp := rfl
@[go_sem] theorem St.put_n (st : St) (d : Nat) (x : AV) : (st.put d x).n = st.n := rfl
@[go_sem] theorem St.setHp_sl (st : St) (hp : Hp) : (st.setHp hp).sl = st.sl := rfl
@[go_sem] theorem St.setHp_hp (st : St) (hp : Hp) : (st.setHp hp).hp = hp := rfl
@[go_sem] theorem St.setHp_n (st : St) (hp : Hp) : (st.setHp hp).n = st.n := rfl
@[go_sem] theorem St.setHp_put (st : St) (hp : Hp) (d : Nat) (x : AV) : (st.setHp hp).put d x = (st.put d x).setHp hp := rfl
@[go_sem] theorem St.setHp_setHp (st : St) (hp hp' : Hp) : (st.setHp hp).setHp hp' = st.setHp hp' := rfl

def St.ev (st : St) : Operand → Option AV
  | .tmp t => st.sl t
  | .const v => some (.v v)
  | .global g => some (match st.hp.gl.find? (fun p => p.1 == g) with | some p => .ref (.pointer (some ⟨g, 0, none⟩)) p.2 | none => .v (.pointer (some ⟨g, 0, none⟩)))
  | .func f => some (.v (.func (.func f) #[] #[]))

@[go_sem] theorem St.ev_tmp (st : St) (t : Nat) : st.ev (.tmp t) = st.sl t := rfl
@[go_sem] theorem St.ev_const (st : St) (v : Value) : st.ev (.const v) = some (.v v) := rfl
@[go_sem] theorem St.ev_func (st : St) (f : Nat) : st.ev (.func f) = some (.v (.func (.func f) #[] #[])) := rfl

/-- The slots and the heap of a state hold in a frame and a world. -/
structure RelM (F : Fr) (st : St) (a : Act) (w : World) (m : Mem) : Prop where
  le : F.m.le m
  hp : HpOk F.base st.hp m w
  sl : ∀ i x, st.sl i = some x → a.tmps[i]? = some x.val ∧ x.ok m

structure Rel (F : Fr) (st : St) (a : Act) (w : World) : Prop where
  lo : Lo F w
  df : a.defers = []
  n : a.tmps.size = st.n
  ex : ∃ m, RelM F st a w m

def AWp (P : Program) (c : Code) (Q : Exit → St → Prop) (st : St) : Prop :=
  ∀ F a w, Rel F st a w → c.wp P (fun e a' w' => ∃ st', Q e st' ∧ Rel F st' a' w') a w

def AList (P : Program) (ops : Array Oper) (l : List Oper) (K : St → Prop) (st : St) : Prop :=
  ∀ F a w, Rel F st a w → ∀ Q : Exit → Act → World → Prop, (∀ a' w', (∃ st', K st' ∧ Rel F st' a' w') → Q .normal a' w') → wpList P ops Q l a w

def AOp (P : Program) (o : Oper) (K : St → Prop) (st : St) : Prop :=
  ∀ F a w, Rel F st a w → ∀ (K' : Act → World → Prop) (Q : Exit → Act → World → Prop), (∀ a' w', (∃ st', K st' ∧ Rel F st' a' w') → K' a' w') → o.wp P a w K' Q

structure RelV (F : Fr) (hp : Hp) (l : List AV) (w : World) : Prop where
  lo : Lo F w
  ex : ∃ m, F.m.le m ∧ HpOk F.base hp m w ∧ AV.oks m l

/-- A function with a body. -/
def Callable (P : Program) (f : FuncId) : Prop := ∃ fn, P.funcs[f]? = some fn ∧ (fn.name == "runtime.NumGoroutine") = false ∧ fn.body.isNone = false

/-- A call of a function: arguments, the heap before; the result and the heap behind. -/
def ACalls (P : Program) (f : FuncId) (args : List AV) (hp : Hp) (R : AV → Hp → Prop) : Prop :=
  Callable P f ∧ ∀ F w, RelV F hp args w → Calls P f (AV.vals args).toArray w (fun e w' => ∃ r hp', R r hp' ∧ e = .returned r.val ∧ RelV F hp' [r] w')

/-! ### Control -/
def thenA (N : St → Prop) (Q : Exit → St → Prop) : Exit → St → Prop
  | .normal, st => N st
  | e, st => Q e st
def inBlk (id : Nat) (Q : Exit → St → Prop) : Exit → St → Prop
  | .exit id', st => if id' = id then Q .normal st else Q (.exit id') st
  | e, st => Q e st
@[go_sem] theorem thenA_normal (N : St → Prop) (Q : Exit → St → Prop) (st : St) : thenA N Q .normal st = N st := rfl
@[go_sem] theorem thenA_ret (N : St → Prop) (Q : Exit → St → Prop) (st : St) : thenA N Q .ret st = Q .ret st := rfl
@[go_sem] theorem thenA_exit (N : St → Prop) (Q : Exit → St → Prop) (st : St) (i : Nat) : thenA N Q (.exit i) st = Q (.exit i) st := rfl
@[go_sem] theorem inBlk_normal (i : Nat) (Q : Exit → St → Prop) (st : St) : inBlk i Q .normal st = Q .normal st := rfl
@[go_sem] theorem inBlk_ret (i : Nat) (Q : Exit → St → Prop) (st : St) : inBlk i Q .ret st = Q .ret st := rfl
@[go_sem] theorem inBlk_exit (i j : Nat) (Q : Exit → St → Prop) (st : St) : inBlk i Q (.exit j) st = if j = i then Q .normal st else Q (.exit j) st := rfl

section
variable {P : Program} {Q : Exit → St → Prop} {st : St}

theorem AWp.mono {c : Code} {Q' : Exit → St → Prop} (h : AWp P c Q st) (hq : ∀ e st, Q e st → Q' e st) : AWp P c Q' st :=
  fun F a w hr => Code.wp_mono (fun _ _ _ ⟨st', q, r⟩ => ⟨st', hq _ _ q, r⟩) (h F a w hr)

theorem aw_skip (h : Q .normal st) : AWp P .skip Q st := fun _ _ _ hr => wp_skip ⟨st, h, hr⟩
theorem aw_exit {id : Nat} (h : Q (.exit id) st) : AWp P (.exit id) Q st := fun _ _ _ hr => wp_exit ⟨st, h, hr⟩
theorem aw_ret (h : Q .ret st) : AWp P .ret Q st := fun _ _ _ hr => wp_ret ⟨st, h, hr⟩

theorem aw_seq {x y : Code} (h : AWp P x (thenA (fun st => AWp P y Q st) Q) st) : AWp P (.seq x y) Q st := by
  intro F a w hr
  refine Go.wp_seq (Code.wp_mono ?_ (h F a w hr))
  rintro e a' w' ⟨st', q, r⟩
  cases e with
  | normal => exact q F a' w' r
  | _ => exact ⟨st', q, r⟩

theorem aw_block {id : Nat} {c : Code} (h : AWp P c (inBlk id Q) st) : AWp P (.block id c) Q st := by
  intro F a w hr
  refine wp_block (Code.wp_mono ?_ (h F a w hr))
  rintro e a' w' ⟨st', q, r⟩
  cases e with
  | exit id' =>
    simp only [Exit.inBlock]
    by_cases hid : id' = id
    · simp only [inBlk, hid, if_true] at q ⊢; exact ⟨st', q, r⟩
    · simp only [inBlk, hid, if_false] at q ⊢; exact ⟨st', q, r⟩
  | _ => exact ⟨st', q, r⟩

theorem Rel.eval {F : Fr} {a : Act} {w : World} (hr : Rel F st a w) {o : Operand} {x : AV} (h : st.ev o = some x) : a.eval o = x.val := by
  obtain ⟨m, hm⟩ := hr.ex
  cases o with
  | tmp t =>
    have := (hm.sl t x h).1
    show a.tmps.getD t undef = _
    rw [Array.getD_eq_getD_getElem?, this]; rfl
  | const v => simp only [St.ev, Option.some.injEq] at h; subst h; rfl
  | global g => simp only [St.ev, Option.some.injEq] at h; subst h; split <;> rfl
  | func f => simp only [St.ev, Option.some.injEq] at h; subst h; simp [Act.eval, AV.val]

theorem RelM.ok {F : Fr} {a : Act} {w : World} {m : Mem} (hr : RelM F st a w m) {o : Operand} {x : AV} (h : st.ev o = some x) : x.ok m := by
  cases o with
  | tmp t => exact (hr.sl t x h).2
  | const v => simp only [St.ev, Option.some.injEq] at h; subst h; trivial
  | global g =>
    simp only [St.ev, Option.some.injEq] at h; subst h
    split
    · rename_i p hp
      have h1 := List.find?_some hp
      have h2 := List.mem_of_find?_eq_some hp
      simp only [beq_iff_eq] at h1
      subst h1
      exact hr.hp.gl p.1 p.2 h2
    · trivial
  | func f => simp only [St.ev, Option.some.injEq] at h; subst h; trivial

theorem aw_cond {c : Operand} {x y : Code} {t : Bool} (hc : st.ev c = some (.v (.bool t))) (h : if t = true then AWp P x Q st else AWp P y Q st) : AWp P (.cond c x y) Q st := by
  intro F a w hr
  have he := hr.eval hc
  cases t
  · exact wp_cond_false he (h F a w hr)
  · exact wp_cond_true he (h F a w hr)

/-- A loop: a ghost 'x' says where it stands; 'f x' what holds there. -/
theorem aw_loop {α : Type} {c : Code} (f : α → St → Prop) (μ : α → Nat) (x0 : α) (h0 : f x0 st)
    (round : ∀ x st, f x st → AWp P c (thenA (fun st' => ∃ y, μ y < μ x ∧ f y st') Q) st) : AWp P (.loop c) Q st := by
  intro F a w hr b k cs
  have key : ∀ n x st a w, μ x = n → f x st → Rel F st a w →
      ∃ e a' w', (∃ st', Q e st' ∧ Rel F st' a' w') ∧ Arrives P (lone (b.at a (.code c :: .inLoop c :: k)) cs w) b k cs e a' w' := by
    intro n
    induction n using Nat.strongRecOn with
    | _ n ih =>
      intro x st a w hn hf hr
      obtain ⟨e, a₁, w₁, ⟨st₁, hq, hr₁⟩, harr⟩ := round x st hf F a w hr b (.inLoop c :: k) cs
      cases e with
      | normal =>
        obtain ⟨y, hlt, hfy⟩ := hq
        obtain ⟨e₂, a₂, w₂, hq₂, harr₂⟩ := ih (μ y) (hn ▸ hlt) y st₁ a₁ w₁ rfl hfy hr₁
        exact ⟨e₂, a₂, w₂, hq₂, .of_steps (Steps.trans harr (.one step_inLoop)) harr₂⟩
      | exit id => exact ⟨_, a₁, w₁, ⟨st₁, hq, hr₁⟩, .pass (x := .inLoop c) rfl (fun _ _ => .inl (by simp)) harr⟩
      | goto l => exact ⟨_, a₁, w₁, ⟨st₁, hq, hr₁⟩, .pass (x := .inLoop c) rfl (fun _ _ => .inl (by simp)) harr⟩
      | ret => exact ⟨_, a₁, w₁, ⟨st₁, hq, hr₁⟩, .pass (x := .inLoop c) rfl (fun _ _ => .inl (by simp)) harr⟩
      | panic ch => exact ⟨_, a₁, w₁, ⟨st₁, hq, hr₁⟩, .pass (x := .inLoop c) rfl (fun _ _ => .inl (by simp)) harr⟩
      | outgrown => exact ⟨_, a₁, w₁, ⟨st₁, hq, hr₁⟩, .pass (x := .inLoop c) rfl (fun _ _ => .inl (by simp)) harr⟩
  obtain ⟨e, a', w', hq, harr⟩ := key _ x0 st a w rfl h0 hr
  exact ⟨e, a', w', hq, .of_steps (.one step_loop) harr⟩

theorem aw_region {id : Nat} {l : List Oper} (h : AList P l.toArray l (fun st => Q .normal st) st) : AWp P (.region id l.toArray false) Q st := by
  intro F a w hr
  exact wp_region_lit (h F a w hr _ fun a' w' ⟨st', q, r⟩ => ⟨st', q, r⟩)

theorem al_nil {ops : Array Oper} {K : St → Prop} (h : K st) : AList P ops [] K st := fun _ a w hr _ hQ => wpList_nil (hQ a w ⟨st, h, hr⟩)

theorem al_cons {ops : Array Oper} {K : St → Prop} {o : Oper} {rest : List Oper} (hg : o.guard = none) (h : AOp P o (fun st => AList P ops rest K st) st) : AList P ops (o :: rest) K st := by
  intro F a w hr Q hQ
  refine wpList_plain hg fun K' hK => ?_
  refine h F a w hr K' Q ?_
  rintro a' w' ⟨st', k, r⟩
  exact hK a' w' (k F a' w' r Q hQ)
end
end Go.AL
