/- The core of an own logic: symbolic execution of the model's code over values that carry their contents. Lemmas only. -/
import Derived.WalkKit
import Derived.MapKept
namespace Go.AL

abbrev Mem := Nat → Nat → Option Value

inductive AV where
  | v (x : Value)
  | lst (sz : Nat) (h : Value) (xs : List AV)
  | ref (p : Value) (cs : List AV)
  | agg (cs : List AV)
  | tup (l : List AV)
  | ifc (t : TypeId) (a : AV)
  | fn (f : Fn) (first caps : List AV)

mutual
def AV.val : AV → Value
  | .v x => x
  | .lst _ h _ => h
  | .ref p _ => p
  | .agg cs => .agg (AV.vals cs).toArray
  | .tup l => .tuple (AV.vals l).toArray
  | .ifc t a => .iface t a.val
  | .fn f a b => .func f (AV.vals a).toArray (AV.vals b).toArray
def AV.vals : List AV → List Value
  | [] => []
  | a :: l => a.val :: AV.vals l
end

theorem AV.vals_eq (l : List AV) : AV.vals l = l.map AV.val := by
  induction l with
  | nil => rfl
  | cons a l ih => simp [AV.vals, ih]

theorem AV.vals_length (l : List AV) : (AV.vals l).length = l.length := by simp [AV.vals_eq]
theorem AV.vals_getElem? (l : List AV) (i : Nat) : (AV.vals l)[i]? = (l[i]?).map AV.val := by simp [AV.vals_eq]

/-- The cells of a value. -/
def AV.cells : AV → List AV
  | .agg cs => cs
  | .v (.agg cs) => cs.toList.map AV.v
  | a => [a]

/-- A slice's header over rows that are readable. -/
def Hdr (m : Mem) (sz : Nat) (h : Value) (vs : List Value) : Prop :=
  ∃ a cap, h = .slice a vs.length cap ∧ vs.length ≤ cap ∧ cap ≤ maxLen ∧ (∀ v ∈ vs, v.cells.size = sz) ∧
    (vs ≠ [] → ∃ b off, a = some ⟨b, off, none⟩ ∧ ∀ (i : Nat) (v : Value), vs[i]? = some v → ∀ (j : Nat) (x : Value), v.cells[j]? = some x → m b (off + i * sz + j) = some x)

def RefOk (m : Mem) (p : Value) (vs : List Value) : Prop :=
  ∃ b off, p = .pointer (some ⟨b, off, none⟩) ∧ ∀ (j : Nat) (x : Value), vs[j]? = some x → m b (off + j) = some x

mutual
def AV.ok (m : Mem) : AV → Prop
  | .v _ => True
  | .lst sz h xs => Hdr m sz h (AV.vals xs) ∧ AV.oks m xs
  | .ref p cs => RefOk m p (AV.vals cs) ∧ AV.oks m cs
  | .agg cs => AV.oks m cs
  | .tup l => AV.oks m l
  | .ifc _ a => a.ok m
  | .fn _ a b => AV.oks m a ∧ AV.oks m b
def AV.oks (m : Mem) : List AV → Prop
  | [] => True
  | a :: l => a.ok m ∧ AV.oks m l
end

theorem AV.oks_iff (m : Mem) (l : List AV) : AV.oks m l ↔ ∀ a ∈ l, a.ok m := by
  induction l with
  | nil => simp [AV.oks]
  | cons a l ih => simp [AV.oks, ih]

def Mem.le (m m' : Mem) : Prop := ∀ b o x, m b o = some x → m' b o = some x
theorem Mem.le_refl (m : Mem) : m.le m := fun _ _ _ h => h
theorem Mem.le_trans {a b c : Mem} (h : a.le b) (k : b.le c) : a.le c := fun _ _ _ x => k _ _ _ (h _ _ _ x)

theorem Hdr.mono {m m' : Mem} (hm : m.le m') {sz h vs} (k : Hdr m sz h vs) : Hdr m' sz h vs := by
  obtain ⟨a, cap, e1, e2, e3, e4, e5⟩ := k
  refine ⟨a, cap, e1, e2, e3, e4, fun hne => ?_⟩
  obtain ⟨b, off, ea, hr⟩ := e5 hne
  exact ⟨b, off, ea, fun i v hv j x hx => hm _ _ _ (hr i v hv j x hx)⟩

theorem RefOk.mono {m m' : Mem} (hm : m.le m') {p vs} (k : RefOk m p vs) : RefOk m' p vs := by
  obtain ⟨b, off, e1, e2⟩ := k
  exact ⟨b, off, e1, fun j x hx => hm _ _ _ (e2 j x hx)⟩

mutual
theorem AV.ok_mono {m m' : Mem} (hm : m.le m') : ∀ (a : AV), a.ok m → a.ok m'
  | .v _, _ => trivial
  | .lst _ _ xs, h => ⟨h.1.mono hm, AV.oks_mono hm xs h.2⟩
  | .ref _ cs, h => ⟨h.1.mono hm, AV.oks_mono hm cs h.2⟩
  | .agg cs, h => AV.oks_mono hm cs h
  | .tup cs, h => AV.oks_mono hm cs h
  | .ifc _ a, h => AV.ok_mono hm a h
  | .fn _ a b, h => ⟨AV.oks_mono hm a h.1, AV.oks_mono hm b h.2⟩
theorem AV.oks_mono {m m' : Mem} (hm : m.le m') : ∀ (l : List AV), AV.oks m l → AV.oks m' l
  | [], _ => trivial
  | a :: l, h => ⟨AV.ok_mono hm a h.1, AV.oks_mono hm l h.2⟩
end

/-- What is tracked of the heap: variables, maps, and slices whose spare room is this call's own. -/
structure Hp where
  blk : Nat → Option (TypeId × List AV)
  mp : Nat → Option (List (Value × AV))
  sp : List (TypeId × Nat × Value)
  gl : List (Nat × List AV)

structure Fr where
  m : Mem
  w : World
  base : Nat

structure Lo (F : Fr) (w : World) : Prop where
  os : w.os = F.w.os
  tape : w.tape = F.w.tape
  output : w.output = F.w.output
  size : F.w.heap.size ≤ w.heap.size
  low : ∀ k, k < F.base → w.heap[k]? = F.w.heap[k]?
  bs : F.base ≤ w.heap.size

/-- An own spare: the header is nil, or it begins a plain row of the call's own whose places from its end on are published nowhere. -/
def Own (base : Nat) (m : Mem) (w : World) (e : TypeId) (sz : Nat) (h : Value) : Prop :=
  h = .slice none 0 0 ∨
  ∃ b n cap cur, h = .slice (some ⟨b, 0, none⟩) n cap ∧ base ≤ b ∧ w.heap[b]? = some (.cells cur e (0, 0)) ∧ cur.size = cap * sz ∧ n ≤ cap ∧ cap ≤ maxLen ∧
    ∀ o, n * sz ≤ o → m b o = none

def blockOf : Value → Option Nat
  | .slice (some a) _ _ => some a.block
  | _ => none

/-- How a string's iterator is told among the maps: one entry whose key is no key. -/
def itE (s : ByteArray) (pos : Nat) : List (Value × AV) := [(.nilFunc, .v (.tuple #[.string s, .int .i64 pos]))]
def notIt (es : List (Value × AV)) : Prop := ∀ s pos, es ≠ itE s pos
/-- What a block of the heap is, of which entries are told: a map, or a string's iterator. -/
def MpAt (w : World) (b : Nat) (es : List (Value × AV)) : Prop :=
  (notIt es ∧ ∃ (en : Array MapEntry) (clock : Nat), w.heap[b]? = some (.map en clock) ∧ en.toList.map (fun e => (e.key, e.val)) = es.map (fun p => (p.1, p.2.val)) ∧ Go.MapKept.Stamped en clock) ∨
  ∃ s pos, w.heap[b]? = some (.stringIter s pos) ∧ es = itE s pos
theorem MpAt.map {w : World} {b : Nat} {es : List (Value × AV)} (h : MpAt w b es) (hn : notIt es) : ∃ (en : Array MapEntry) (clock : Nat), w.heap[b]? = some (.map en clock) ∧ en.toList.map (fun e => (e.key, e.val)) = es.map (fun p => (p.1, p.2.val)) ∧ Go.MapKept.Stamped en clock := by
  rcases h with ⟨_, h⟩ | ⟨s, pos, _, e⟩
  · exact h
  · exact absurd e (hn s pos)
theorem MpAt.other {w w' : World} {b : Nat} {es : List (Value × AV)} (h : MpAt w b es) (hw : w'.heap[b]? = w.heap[b]?) : MpAt w' b es := by
  rcases h with ⟨h0, en, cl, h1, h2⟩ | ⟨s, pos, h1, h2⟩
  · exact .inl ⟨h0, en, cl, by rw [hw]; exact h1, h2⟩
  · exact .inr ⟨s, pos, by rw [hw]; exact h1, h2⟩
theorem MpAt.iter {w : World} {b : Nat} {s : ByteArray} {pos : Nat} (h : MpAt w b (itE s pos)) : w.heap[b]? = some (.stringIter s pos) := by
  rcases h with ⟨h0, _⟩ | ⟨s', p', e1, e2⟩
  · exact absurd rfl (h0 s pos)
  · simp only [itE, List.cons.injEq, Prod.mk.injEq, true_and, AV.v.injEq, Value.tuple.injEq, and_true] at e2
    have : [Value.string s, Value.int .i64 pos] = [Value.string s', Value.int .i64 p'] := by simpa using congrArg Array.toList e2
    simp only [List.cons.injEq, Value.string.injEq, Value.int.injEq, true_and, and_true] at this
    obtain ⟨rfl, h2⟩ := this
    have : p' = pos := by omega
    subst this
    exact e1
theorem MpAt.lt {w : World} {b : Nat} {es : List (Value × AV)} (h : MpAt w b es) : b < w.heap.size := by
  rcases h with ⟨h0, en, cl, h1, h2⟩ | ⟨s, pos, h1, h2⟩ <;> exact (Array.getElem?_eq_some_iff.1 h1).1
theorem MpAt.row {w : World} {b : Nat} {es : List (Value × AV)} (h : MpAt w b es) {cs : Array Value} {T : TypeId} {fz : Nat × Nat} (hc : w.heap[b]? = some (.cells cs T fz)) : False := by
  rcases h with ⟨h0, en, cl, h1, h2⟩ | ⟨s, pos, h1, h2⟩ <;> (rw [hc] at h1; cases h1)
theorem MpAt.cell {w : World} {b : Nat} {es : List (Value × AV)} (h : MpAt w b es) (o : Nat) : w.cell? ⟨b, o, none⟩ = none := by
  unfold World.cell?
  rcases h with ⟨h0, en, cl, h1, h2⟩ | ⟨s, pos, h1, h2⟩ <;> rw [h1]

/-- Does an entry on a package's variable tell its first cells (else: its whole block, as one tuple)? -/
def plainL : List AV → Bool
  | [.tup _] => false
  | _ => true
/-- What is known of a package's variable: its first cells, or the whole block. -/
def GlOk (base : Nat) (m : Mem) (w : World) (g : Nat) : List AV → Prop
  | [.tup vs] => g < base ∧ ∃ T fz, w.heap[g]? = some (.cells (AV.vals vs).toArray T fz)
  | cs => RefOk m (.pointer (some ⟨g, 0, none⟩)) (AV.vals cs) ∧ AV.oks m cs
theorem GlOk.plain {base : Nat} {m : Mem} {w : World} {g : Nat} {cs : List AV} (h : GlOk base m w g cs) (hp : plainL cs = true) : RefOk m (.pointer (some ⟨g, 0, none⟩)) (AV.vals cs) ∧ AV.oks m cs := by
  unfold GlOk at h
  split at h
  · cases hp
  · exact h

structure HpOk (base : Nat) (hp : Hp) (m : Mem) (w : World) : Prop where
  mem : ∀ b o x, m b o = some x → w.cell? ⟨b, o, none⟩ = some x
  blk : ∀ b T cs, hp.blk b = some (T, cs) → base ≤ b ∧ w.heap[b]? = some (.cells (AV.vals cs).toArray T (0, 0)) ∧ AV.oks m cs ∧ ∀ o, m b o = none
  mp : ∀ b es, hp.mp b = some es → base ≤ b ∧ MpAt w b es ∧ AV.oks m (es.map (·.2))
  sp : ∀ e sz h, (e, sz, h) ∈ hp.sp → Own base m w e sz h ∧ ∀ b, blockOf h = some b → hp.blk b = none
  spd : hp.sp.Pairwise (fun p q => ∀ b, blockOf p.2.2 = some b → blockOf q.2.2 ≠ some b)
  gl : ∀ g cs, (g, cs) ∈ hp.gl → GlOk base m w g cs

structure St where
  n : Nat
  sl : Nat → Option AV
  hp : Hp

def St.put (st : St) (d : Nat) (x : AV) : St := { st with sl := fun i => if i = d then some x else st.sl i }
def St.putO (st : St) (d : Option Nat) (x : AV) : St := match d with | some d => st.put d x | none => st
def St.setHp (st : St) (hp : Hp) : St := { st with hp := hp }

@[go_sem] theorem St.put_sl (st : St) (d : Nat) (x : AV) (i : Nat) : (st.put d x).sl i = if i = d then some x else st.sl i := rfl
@[go_sem] theorem St.put_hp (st : St) (d : Nat) (x : AV) : (st.put d x).hp = st.hp := rfl
@[go_sem] theorem St.put_n (st : St) (d : Nat) (x : AV) : (st.put d x).n = st.n := rfl
@[go_sem] theorem St.setHp_sl (st : St) (hp : Hp) : (st.setHp hp).sl = st.sl := rfl
@[go_sem] theorem St.setHp_hp (st : St) (hp : Hp) : (st.setHp hp).hp = hp := rfl
@[go_sem] theorem St.setHp_n (st : St) (hp : Hp) : (st.setHp hp).n = st.n := rfl
@[go_sem] theorem St.setHp_put (st : St) (hp : Hp) (d : Nat) (x : AV) : (st.setHp hp).put d x = (st.put d x).setHp hp := rfl
@[go_sem] theorem St.setHp_setHp (st : St) (hp hp' : Hp) : (st.setHp hp).setHp hp' = st.setHp hp' := rfl

def St.ev (st : St) : Operand → Option AV
  | .tmp t => st.sl t
  | .const v => some (.v v)
  | .global g => some (match st.hp.gl.find? (fun p => p.1 == g && plainL p.2) with | some p => .ref (.pointer (some ⟨g, 0, none⟩)) p.2 | none => .v (.pointer (some ⟨g, 0, none⟩)))
  | .func f => some (.v (.func (.func f) #[] #[]))

@[go_sem] theorem St.ev_tmp (st : St) (t : Nat) : st.ev (.tmp t) = st.sl t := rfl
@[go_sem] theorem St.ev_const (st : St) (v : Value) : st.ev (.const v) = some (.v v) := rfl
@[go_sem] theorem St.ev_func (st : St) (f : Nat) : st.ev (.func f) = some (.v (.func (.func f) #[] #[])) := rfl

/-- The slots and the heap of a state hold in a frame and a world. -/
structure RelM (F : Fr) (st : St) (a : Act) (w : World) (m : Mem) : Prop where
  le : F.m.le m
  hp : HpOk F.base st.hp m w
  sl : ∀ i x, st.sl i = some x → a.tmps[i]? = some x.val ∧ x.ok m

structure Rel (F : Fr) (st : St) (a : Act) (w : World) : Prop where
  lo : Lo F w
  df : a.defers = []
  n : a.tmps.size = st.n
  ex : ∃ m, RelM F st a w m

def AWp (P : Program) (c : Code) (Q : Exit → St → Prop) (st : St) : Prop :=
  ∀ F a w, Rel F st a w → c.wp P (fun e a' w' => ∃ st', Q e st' ∧ Rel F st' a' w') a w

def AList (P : Program) (ops : Array Oper) (l : List Oper) (K : St → Prop) (st : St) : Prop :=
  ∀ F a w, Rel F st a w → ∀ Q : Exit → Act → World → Prop, (∀ a' w', (∃ st', K st' ∧ Rel F st' a' w') → Q .normal a' w') → wpList P ops Q l a w

def AOp (P : Program) (o : Oper) (K : St → Prop) (st : St) : Prop :=
  ∀ F a w, Rel F st a w → ∀ (K' : Act → World → Prop) (Q : Exit → Act → World → Prop), (∀ a' w', (∃ st', K st' ∧ Rel F st' a' w') → K' a' w') → o.wp P a w K' Q

structure RelV (F : Fr) (hp : Hp) (l : List AV) (w : World) : Prop where
  lo : Lo F w
  ex : ∃ m, F.m.le m ∧ HpOk F.base hp m w ∧ AV.oks m l

/-- A function with a body. -/
def Callable (P : Program) (f : FuncId) : Prop := ∃ fn, P.funcs[f]? = some fn ∧ (fn.name == "runtime.NumGoroutine") = false ∧ fn.body.isNone = false

/-- A call of a function: arguments, the heap before; the result and the heap behind. -/
def ACalls (P : Program) (f : FuncId) (args : List AV) (hp : Hp) (R : AV → Hp → Prop) : Prop :=
  Callable P f ∧ ∀ F w, RelV F hp args w → Calls P f (AV.vals args).toArray w (fun e w' => ∃ r hp', R r hp' ∧ e = .returned r.val ∧ RelV F hp' [r] w')

/-! ### Control -/
def thenA (N : St → Prop) (Q : Exit → St → Prop) : Exit → St → Prop
  | .normal, st => N st
  | e, st => Q e st
def inBlk (id : Nat) (Q : Exit → St → Prop) : Exit → St → Prop
  | .exit id', st => if id' = id then Q .normal st else Q (.exit id') st
  | e, st => Q e st
@[go_sem] theorem thenA_normal (N : St → Prop) (Q : Exit → St → Prop) (st : St) : thenA N Q .normal st = N st := rfl
@[go_sem] theorem thenA_ret (N : St → Prop) (Q : Exit → St → Prop) (st : St) : thenA N Q .ret st = Q .ret st := rfl
@[go_sem] theorem thenA_exit (N : St → Prop) (Q : Exit → St → Prop) (st : St) (i : Nat) : thenA N Q (.exit i) st = Q (.exit i) st := rfl
@[go_sem] theorem inBlk_normal (i : Nat) (Q : Exit → St → Prop) (st : St) : inBlk i Q .normal st = Q .normal st := rfl
@[go_sem] theorem inBlk_ret (i : Nat) (Q : Exit → St → Prop) (st : St) : inBlk i Q .ret st = Q .ret st := rfl
@[go_sem] theorem inBlk_exit (i j : Nat) (Q : Exit → St → Prop) (st : St) : inBlk i Q (.exit j) st = if j = i then Q .normal st else Q (.exit j) st := rfl

section
variable {P : Program} {Q : Exit → St → Prop} {st : St}

theorem AWp.mono {c : Code} {Q' : Exit → St → Prop} (h : AWp P c Q st) (hq : ∀ e st, Q e st → Q' e st) : AWp P c Q' st :=
  fun F a w hr => Code.wp_mono (fun _ _ _ ⟨st', q, r⟩ => ⟨st', hq _ _ q, r⟩) (h F a w hr)

theorem aw_skip (h : Q .normal st) : AWp P .skip Q st := fun _ _ _ hr => wp_skip ⟨st, h, hr⟩
theorem aw_exit {id : Nat} (h : Q (.exit id) st) : AWp P (.exit id) Q st := fun _ _ _ hr => wp_exit ⟨st, h, hr⟩
theorem aw_ret (h : Q .ret st) : AWp P .ret Q st := fun _ _ _ hr => wp_ret ⟨st, h, hr⟩

theorem aw_seq {x y : Code} (h : AWp P x (thenA (fun st => AWp P y Q st) Q) st) : AWp P (.seq x y) Q st := by
  intro F a w hr
  refine Go.wp_seq (Code.wp_mono ?_ (h F a w hr))
  rintro e a' w' ⟨st', q, r⟩
  cases e with
  | normal => exact q F a' w' r
  | _ => exact ⟨st', q, r⟩

theorem aw_block {id : Nat} {c : Code} (h : AWp P c (inBlk id Q) st) : AWp P (.block id c) Q st := by
  intro F a w hr
  refine wp_block (Code.wp_mono ?_ (h F a w hr))
  rintro e a' w' ⟨st', q, r⟩
  cases e with
  | exit id' =>
    simp only [Exit.inBlock]
    by_cases hid : id' = id
    · simp only [inBlk, hid, if_true] at q ⊢; exact ⟨st', q, r⟩
    · simp only [inBlk, hid, if_false] at q ⊢; exact ⟨st', q, r⟩
  | _ => exact ⟨st', q, r⟩

theorem Rel.eval {F : Fr} {a : Act} {w : World} (hr : Rel F st a w) {o : Operand} {x : AV} (h : st.ev o = some x) : a.eval o = x.val := by
  obtain ⟨m, hm⟩ := hr.ex
  cases o with
  | tmp t =>
    have := (hm.sl t x h).1
    show a.tmps.getD t undef = _
    rw [Array.getD_eq_getD_getElem?, this]; rfl
  | const v => simp only [St.ev, Option.some.injEq] at h; subst h; rfl
  | global g => simp only [St.ev, Option.some.injEq] at h; subst h; split <;> rfl
  | func f => simp only [St.ev, Option.some.injEq] at h; subst h; simp [Act.eval, AV.val]

theorem RelM.ok {F : Fr} {a : Act} {w : World} {m : Mem} (hr : RelM F st a w m) {o : Operand} {x : AV} (h : st.ev o = some x) : x.ok m := by
  cases o with
  | tmp t => exact (hr.sl t x h).2
  | const v => simp only [St.ev, Option.some.injEq] at h; subst h; trivial
  | global g =>
    simp only [St.ev, Option.some.injEq] at h; subst h
    split
    · rename_i p hp
      have h1 := List.find?_some hp
      have h2 := List.mem_of_find?_eq_some hp
      simp only [Bool.and_eq_true, beq_iff_eq] at h1
      obtain ⟨h1, h3⟩ := h1
      subst h1
      exact (hr.hp.gl p.1 p.2 h2).plain h3
    · trivial
  | func f => simp only [St.ev, Option.some.injEq] at h; subst h; trivial

theorem aw_cond {c : Operand} {x y : Code} {t : Bool} (hc : st.ev c = some (.v (.bool t))) (h : if t = true then AWp P x Q st else AWp P y Q st) : AWp P (.cond c x y) Q st := by
  intro F a w hr
  have he := hr.eval hc
  cases t
  · exact wp_cond_false he (h F a w hr)
  · exact wp_cond_true he (h F a w hr)

/-- A loop: a ghost 'x' says where it stands; 'f x' what holds there. -/
theorem aw_loop {α : Type} {c : Code} (f : α → St → Prop) (μ : α → Nat) (x0 : α) (h0 : f x0 st)
    (round : ∀ x st, f x st → AWp P c (thenA (fun st' => ∃ y, μ y < μ x ∧ f y st') Q) st) : AWp P (.loop c) Q st := by
  intro F a w hr b k cs
  have key : ∀ n x st a w, μ x = n → f x st → Rel F st a w →
      ∃ e a' w', (∃ st', Q e st' ∧ Rel F st' a' w') ∧ Arrives P (lone (b.at a (.code c :: .inLoop c :: k)) cs w) b k cs e a' w' := by
    intro n
    induction n using Nat.strongRecOn with
    | _ n ih =>
      intro x st a w hn hf hr
      obtain ⟨e, a₁, w₁, ⟨st₁, hq, hr₁⟩, harr⟩ := round x st hf F a w hr b (.inLoop c :: k) cs
      cases e with
      | normal =>
        obtain ⟨y, hlt, hfy⟩ := hq
        obtain ⟨e₂, a₂, w₂, hq₂, harr₂⟩ := ih (μ y) (hn ▸ hlt) y st₁ a₁ w₁ rfl hfy hr₁
        exact ⟨e₂, a₂, w₂, hq₂, .of_steps (Steps.trans harr (.one step_inLoop)) harr₂⟩
      | exit id => exact ⟨_, a₁, w₁, ⟨st₁, hq, hr₁⟩, .pass (x := .inLoop c) rfl (fun _ _ => .inl (by simp)) harr⟩
      | goto l => exact ⟨_, a₁, w₁, ⟨st₁, hq, hr₁⟩, .pass (x := .inLoop c) rfl (fun _ _ => .inl (by simp)) harr⟩
      | ret => exact ⟨_, a₁, w₁, ⟨st₁, hq, hr₁⟩, .pass (x := .inLoop c) rfl (fun _ _ => .inl (by simp)) harr⟩
      | panic ch => exact ⟨_, a₁, w₁, ⟨st₁, hq, hr₁⟩, .pass (x := .inLoop c) rfl (fun _ _ => .inl (by simp)) harr⟩
      | outgrown => exact ⟨_, a₁, w₁, ⟨st₁, hq, hr₁⟩, .pass (x := .inLoop c) rfl (fun _ _ => .inl (by simp)) harr⟩
  obtain ⟨e, a', w', hq, harr⟩ := key _ x0 st a w rfl h0 hr
  exact ⟨e, a', w', hq, .of_steps (.one step_loop) harr⟩

theorem aw_region {id : Nat} {l : List Oper} (h : AList P l.toArray l (fun st => Q .normal st) st) : AWp P (.region id l.toArray false) Q st := by
  intro F a w hr
  exact wp_region_lit (h F a w hr _ fun a' w' ⟨st', q, r⟩ => ⟨st', q, r⟩)

theorem al_nil {ops : Array Oper} {K : St → Prop} (h : K st) : AList P ops [] K st := fun _ a w hr _ hQ => wpList_nil (hQ a w ⟨st, h, hr⟩)

theorem al_cons {ops : Array Oper} {K : St → Prop} {o : Oper} {rest : List Oper} (hg : o.guard = none) (h : AOp P o (fun st => AList P ops rest K st) st) : AList P ops (o :: rest) K st := by
  intro F a w hr Q hQ
  refine wpList_plain hg fun K' hK => ?_
  refine h F a w hr K' Q ?_
  rintro a' w' ⟨st', k, r⟩
  exact hK a' w' (k F a' w' r Q hQ)
end
end Go.AL
/- Operations that leave the world alone: what they yield. -/
namespace Go.AL

inductive KT where
  | b | i (k : IntKind) | s | p (e : TypeId) | sl (e : TypeId) | ar (n : Nat) (e : TypeId) | mp (k e : TypeId) | st (fs : List (Nat × TypeId × Nat)) | ifc | fnc | oth

def szT (P : Program) (t : TypeId) : Option Nat := (P.info? t).map (·.size)

def kindT (P : Program) (t : TypeId) : KT :=
  match P.underlying t with
  | some .bool => .b
  | some (.int k) => .i k
  | some .string => .s
  | some (.pointer e) => .p e
  | some (.slice e) => .sl e
  | some (.array n e) => .ar n e
  | some (.map k e) => .mp k e
  | some (.struct fs) => .st (fs.toList.map fun f => (f.offset, f.type, (szT P f.type).getD 0))
  | some (.interface _) => .ifc
  | some (.func ..) => .fnc
  | _ => .oth

def aggT (P : Program) (t : TypeId) : Bool := match kindT P t with | .st _ => true | .ar _ _ => true | _ => false

def withAV (o : Option AV) (K : AV → Prop) : Prop := match o with | some a => K a | none => False
@[go_sem] theorem withAV_some (a : AV) (K : AV → Prop) : withAV (some a) K = K a := rfl
theorem withAV_elim {o : Option AV} {K : AV → Prop} (h : withAV o K) : ∃ a, o = some a ∧ K a := by
  cases o with
  | none => exact h.elim
  | some a => exact ⟨a, rfl, h⟩

def padd : Value → Nat → Value
  | .pointer (some a), n => .pointer (some (a.add n))
  | v, _ => v
def hadd : Value → Nat → Value
  | .slice (some a) _ _, n => .pointer (some (a.add n))
  | v, _ => v

theorem addr_add (b o n : Nat) : (⟨b, o, none⟩ : Addr).add n = ⟨b, o + n, none⟩ := by
  unfold Addr.add; split <;> simp_all
@[go_sem] theorem padd_mk (b o n : Nat) : padd (.pointer (some ⟨b, o, none⟩)) n = .pointer (some ⟨b, o + n, none⟩) := by simp [padd, addr_add]

/-! ### What each operation yields -/
def pickK (c : AV) (a b : Option AV) (K : AV → Prop) : Prop :=
  match c with
  | .v (.bool t) => if t = true then withAV a K else withAV b K
  | _ => False

def readK (P : Program) (t : TypeId) (cs : List AV) (K : AV → Prop) : Prop :=
  if aggT P t = true then (match szT P t with | some n => n ≤ cs.length ∧ K (.agg (cs.take n)) | none => False)
  else (kindT P t ≠ .oth ∧ match cs with | c :: _ => K c | [] => False)

def loadK (P : Program) (hp : Hp) (t : TypeId) (a : AV) (K : AV → Prop) : Prop :=
  match a with
  | .ref _ cs => readK P t cs K
  | .v (.pointer (some ⟨b, o, none⟩)) => (match hp.blk b with | some (_, cs) => readK P t (cs.drop o) K | none => False)
  | _ => False

def fieldAddrK (P : Program) (s : TypeId) (a : AV) (f : Nat) (K : AV → Prop) : Prop :=
  match kindT P s with
  | .st fs => (match fs[f]? with
    | some (off, _, n) => n ≠ 0 ∧ (match a with
      | .ref p cs => K (.ref (padd p off) (cs.drop off))
      | .v (.pointer (some ⟨b, o, none⟩)) => K (.v (.pointer (some ⟨b, o + off, none⟩)))
      | _ => False)
    | none => False)
  | _ => False

def indexAddrK (P : Program) (t : TypeId) (a i : AV) (K : AV → Prop) : Prop :=
  match kindT P t, i with
  | .sl e, .v (.int _ i) => (match szT P e with
    | some n => (match a with
      | .lst sz h xs => sz = n ∧ 0 ≤ i ∧ (match xs[i.toNat]? with | some x => K (.ref (hadd h (i.toNat * n)) x.cells) | none => False)
      | .v (.slice (some ⟨b, o, none⟩) len _) => 0 ≤ i ∧ i < len ∧ K (.v (.pointer (some ⟨b, o + i.toNat * n, none⟩)))
      | _ => False)
    | none => False)
  | .ar len e, .v (.int _ i) => (match szT P e with
    | some n => 0 ≤ i ∧ i < len ∧ (match a with
      | .ref p cs => K (.ref (padd p (i.toNat * n)) (cs.drop (i.toNat * n)))
      | .v (.pointer (some ⟨b, o, none⟩)) => K (.v (.pointer (some ⟨b, o + i.toNat * n, none⟩)))
      | _ => False)
    | none => False)
  | _, _ => False

def indexK (P : Program) (t : TypeId) (a i : AV) (K : AV → Prop) : Prop :=
  match kindT P t, a, i with
  | .s, .v (.string s), .v (.int _ i) => 0 ≤ i ∧ (match s[i.toNat]? with | some b => K (.v (.int .u8 b.toNat)) | none => False)
  | _, _, _ => False

def lenK (P : Program) (hp : Hp) (t : TypeId) (a : AV) (K : AV → Prop) : Prop :=
  match kindT P t, a with
  | .s, .v (.string s) => K (.v (.int .i64 s.size))
  | .sl _, .lst _ _ xs => K (.v (.int .i64 xs.length))
  | .sl _, .v (.slice _ n _) => K (.v (.int .i64 n))
  | .mp _ _, .v (.map (some b)) => (match hp.mp b with | some es => notIt es ∧ K (.v (.int .i64 es.length)) | none => False)
  | .mp _ _, .v (.map none) => K (.v (.int .i64 0))
  | _, _ => False

def extractK (a : AV) (i : Nat) (K : AV → Prop) : Prop :=
  match a with
  | .tup l => withAV l[i]? K
  | _ => False

def fieldK (P : Program) (s : TypeId) (a : AV) (f : Nat) (K : AV → Prop) : Prop :=
  match kindT P s, a with
  | .st fs, .agg cs => (match fs[f]? with
    | some (off, t, _) => readK P t (cs.drop off) K
    | none => False)
  | _, _ => False

def unK (op : UnOp) (a : AV) (K : AV → Prop) : Prop :=
  match op, a with
  | .not, .v (.bool b) => K (.v (.bool !b))
  | .neg, .v (.int k n) => K (.v (.int k (k.wrap (0 - n))))
  | _, _ => False

def intK (op : BinOp) (k : IntKind) (x y : Int) (K : AV → Prop) : Prop :=
  match op with
  | .add => K (.v (.int k (k.wrap (x + y))))
  | .sub => K (.v (.int k (k.wrap (x - y))))
  | .mul => K (.v (.int k (k.wrap (x * y))))
  | .quo => y ≠ 0 ∧ K (.v (.int k (k.wrap (x.tdiv y))))
  | .rem => y ≠ 0 ∧ K (.v (.int k (x.tmod y)))
  | .eql => K (.v (.bool (decide (x = y))))
  | .neq => K (.v (.bool (!decide (x = y))))
  | .lss => K (.v (.bool (decide (x < y))))
  | .leq => K (.v (.bool (decide (x ≤ y))))
  | .gtr => K (.v (.bool (decide (x > y))))
  | .geq => K (.v (.bool (decide (x ≥ y))))
  | _ => False

def strK (op : BinOp) (x y : ByteArray) (K : AV → Prop) : Prop :=
  match op with
  | .add => x.size + y.size ≤ 9223372036854775807 ∧ K (.v (.string (x ++ y)))
  | .eql => K (.v (.bool (decide (x = y))))
  | .neq => K (.v (.bool (!decide (x = y))))
  | .lss => K (.v (.bool (Op.bytesLess x.toList y.toList)))
  | .leq => K (.v (.bool (Op.bytesLess x.toList y.toList || x.toList == y.toList)))
  | .gtr => K (.v (.bool !(Op.bytesLess x.toList y.toList || x.toList == y.toList)))
  | .geq => K (.v (.bool !(Op.bytesLess x.toList y.toList)))
  | _ => False

/-- Equality of two cells of a plain struct. -/
def eqF : KT → AV → AV → Option Bool
  | .i _, .v (.int k a), .v (.int k' b) => if k = k' then some (decide (a = b)) else none
  | .b, .v (.bool a), .v (.bool b) => some (decide (a = b))
  | .s, .v (.string a), .v (.string b) => some (decide (a = b))
  | _, _, _ => none
def andO : Option Bool → Option Bool → Option Bool
  | some a, some b => some (a && b)
  | _, _ => none
def eqS (P : Program) : List (Nat × TypeId × Nat) → List AV → List AV → Option Bool
  | [], [], [] => some true
  | f :: fs, x :: xs, y :: ys => andO (eqF (kindT P f.2.1) x y) (eqS P fs xs ys)
  | _, _, _ => none
/-- A struct type whose '==' goes cell by cell. -/
def eqT (P : Program) (t : TypeId) : Bool :=
  match P.underlying t with
  | some (.struct fl) => !P.stoodInHeld t && !P.eqGuardType P.depth t && fl.toList.all (fun f => f.name != "_") && decide (fl.toList.map (·.offset) = List.range fl.size)
  | _ => false

def eqB (op : BinOp) (r : Bool) (K : AV → Prop) : Prop :=
  match op with
  | .eql => K (.v (.bool r))
  | .neq => K (.v (.bool !r))
  | _ => False

/-- Whether a slice is nil. -/
def nilB : Value → Bool
  | .slice none _ _ => true
  | _ => false
/-- '==' where one side is nil, and between bools. -/
def binK (P : Program) (op : BinOp) (t : TypeId) (a b : AV) (K : AV → Prop) : Prop :=
  match a, b with
  | .v (.int k x), .v (.int k' y) => k = k' ∧ intK op k x y K
  | .v (.string x), .v (.string y) => strK op x y K
  | .v (.bool x), .v (.bool y) => (match kindT P t with | .b => eqB op (x == y) K | _ => False)
  | .v (.pointer none), .v (.pointer none) => (match kindT P t with | .p _ => eqB op true K | _ => False)
  | .ref _ _, .v (.pointer none) => (match kindT P t with | .p _ => eqB op false K | _ => False)
  | .v (.pointer (some _)), .v (.pointer none) => (match kindT P t with | .p _ => eqB op false K | _ => False)
  | .agg xs, .agg ys => (match kindT P t with
    | .st fs => eqT P t = true ∧ (match eqS P fs xs ys with | some r => eqB op r K | none => False)
    | _ => False)
  | .ifc _ _, .v .nilIface => (match kindT P t with | .ifc => eqB op false K | _ => False)
  | .lst _ h _, .v (.slice none 0 0) => (match kindT P t with | .sl _ => eqB op (nilB h) K | _ => False)
  | .v (.slice a n c), .v (.slice none 0 0) => (match kindT P t with | .sl _ => eqB op (nilB (.slice a n c)) K | _ => False)
  | _, _ => False

def cvtK (P : Program) (s d : TypeId) (a : AV) (K : AV → Prop) : Prop :=
  match kindT P s, kindT P d, a with
  | .i _, .i k, .v (.int _ n) => K (.v (.int k (k.wrap n)))
  | .s, .s, .v (.string x) => K (.v (.string x))
  | .i _, .s, .v (.int _ n) => K (.v (.string (Utf8.encode n)))
  | _, _, _ => False

def nilCheckK (a : AV) (K : AV → Prop) : Prop :=
  match a with
  | .ref p cs => K (.ref p cs)
  | .v (.pointer (some x)) => K (.v (.pointer (some x)))
  | .ifc t a => K (.ifc t a)
  | _ => False

def mkIfcK (P : Program) (t : TypeId) (a : AV) (K : AV → Prop) : Prop :=
  match kindT P t with
  | .ifc => False
  | .oth => False
  | _ => K (.ifc t a)

def evs (st : St) (l : Array Operand) : Option (List AV) := l.toList.mapM st.ev

def mkFnK (st : St) (f : Fn) (a b : Array Operand) (K : AV → Prop) : Prop :=
  match evs st a, evs st b with
  | some x, some y => K (.fn f x y)
  | _, _ => False

/-- Builtins that only look. -/
def callK (P : Program) (st : St) (c : Call) (K : AV → Prop) : Prop :=
  match c.callee with
  | .builtin .len => (match c.args.toList, c.argTypes.toList with
    | [x], [t] => withAV (st.ev x) fun a => lenK P st.hp t a K
    | _, _ => False)
  | _ => False

def pop (P : Program) (st : St) (op : Op) (K : AV → Prop) : Prop :=
  match op with
  | .move x => withAV (st.ev x) K
  | .assign x => withAV (st.ev x) K
  | .pick c a b => withAV (st.ev c) fun c => pickK c (st.ev a) (st.ev b) K
  | .binOp op t x y _ => withAV (st.ev x) fun a => withAV (st.ev y) fun b => binK P op t a b K
  | .unOp op _ x => withAV (st.ev x) fun a => unK op a K
  | .load t x => withAV (st.ev x) fun a => loadK P st.hp t a K
  | .fieldAddr s x f => withAV (st.ev x) fun a => fieldAddrK P s a f K
  | .indexAddr t x i => withAV (st.ev x) fun a => withAV (st.ev i) fun i => indexAddrK P t a i K
  | .index t x i => withAV (st.ev x) fun a => withAV (st.ev i) fun i => indexK P t a i K
  | .field s x f => withAV (st.ev x) fun a => fieldK P s a f K
  | .extract x i => withAV (st.ev x) fun a => extractK a i K
  | .convert s d x => withAV (st.ev x) fun a => cvtK P s d a K
  | .makeInterface t x => withAV (st.ev x) fun a => mkIfcK P t a K
  | .makeFunc f a b => mkFnK st f a b K
  | .nilCheck x => withAV (st.ev x) fun a => nilCheckK a K
  | .call c => callK P st c K
  | _ => False

/-! ### Soundness -/
section
variable {P : Program} {w : World}

theorem szT_info {t : TypeId} {n : Nat} (h : szT P t = some n) : ∃ i, P.info? t = some i ∧ i.size = n := by
  unfold szT at h
  cases hi : P.info? t with
  | none => simp [hi] at h
  | some i => exact ⟨i, rfl, by simpa [hi] using h⟩

theorem run_sizeOf' {t : TypeId} {n : Nat} (h : szT P t = some n) : (sizeOf t).run P w = .ok n w := by
  obtain ⟨i, hi, e⟩ := szT_info h
  simp [sizeOf, typeInfo, hi, e]

theorem kind_sl {t e : TypeId} (h : kindT P t = .sl e) : P.underlying t = some (.slice e) := by
  unfold kindT at h; split at h <;> (cases h <;> assumption)
theorem kind_ar {t e : TypeId} {n : Nat} (h : kindT P t = .ar n e) : P.underlying t = some (.array n e) := by
  unfold kindT at h; split at h <;> (cases h <;> assumption)
theorem kind_s {t : TypeId} (h : kindT P t = .s) : P.underlying t = some .string := by
  unfold kindT at h; split at h <;> (cases h <;> assumption)
theorem kind_b {t : TypeId} (h : kindT P t = .b) : P.underlying t = some .bool := by
  unfold kindT at h; split at h <;> (cases h <;> assumption)
theorem kind_i {t : TypeId} {k : IntKind} (h : kindT P t = .i k) : P.underlying t = some (.int k) := by
  unfold kindT at h; split at h <;> (cases h <;> assumption)
theorem kind_p {t e : TypeId} (h : kindT P t = .p e) : P.underlying t = some (.pointer e) := by
  unfold kindT at h; split at h <;> (cases h <;> assumption)
theorem kind_mp {t k e : TypeId} (h : kindT P t = .mp k e) : P.underlying t = some (.map k e) := by
  unfold kindT at h; split at h <;> (cases h <;> assumption)
theorem kind_ifc {t : TypeId} (h : kindT P t = .ifc) : ∃ ms, P.underlying t = some (.interface ms) := by
  unfold kindT at h; split at h <;> (cases h <;> exact ⟨_, by assumption⟩)
theorem kind_st {t : TypeId} {fs : List (Nat × TypeId × Nat)} (h : kindT P t = .st fs) : ∃ fl, P.underlying t = some (.struct fl) ∧ fs = fl.toList.map fun f => (f.offset, f.type, (szT P f.type).getD 0) := by
  unfold kindT at h; split at h <;> (cases h <;> exact ⟨_, by assumption, rfl⟩)
theorem kind_some {t : TypeId} (h : kindT P t ≠ .oth) : ∃ d, P.underlying t = some d := by
  cases hu : P.underlying t with
  | none => exact absurd (by simp [kindT, hu]) h
  | some d => exact ⟨d, rfl⟩

theorem aggT_true {t : TypeId} (h : aggT P t = true) : (isAgg t).run P w = .ok true w := by
  unfold aggT at h
  split at h
  · rename_i fs hk; obtain ⟨fl, hu, _⟩ := kind_st hk; simp [isAgg, run_underlying hu]
  · rename_i n e hk; have hu := kind_ar hk; simp [isAgg, run_underlying hu]
  · cases h

theorem aggT_false {t : TypeId} (h : aggT P t = false) (hk : kindT P t ≠ .oth) : (isAgg t).run P w = .ok false w := by
  obtain ⟨d, hu⟩ := kind_some hk
  have : (isAgg t).run P w = .ok (match d with | .struct _ => true | .array _ _ => true | _ => false) w := by
    cases d <;> simp [isAgg, run_underlying hu]
  rw [this]
  unfold aggT kindT at h
  rw [hu] at h
  cases d <;> simp_all
end
end Go.AL
/- What the pure operations yield is what the machine computes. -/
namespace Go.AL
section
variable {P : Program}

theorem AV.vals_take (l : List AV) (n : Nat) : AV.vals (l.take n) = (AV.vals l).take n := by simp [AV.vals_eq]
theorem AV.vals_drop (l : List AV) (n : Nat) : AV.vals (l.drop n) = (AV.vals l).drop n := by simp [AV.vals_eq]
theorem AV.vals_append (l k : List AV) : AV.vals (l ++ k) = AV.vals l ++ AV.vals k := by simp [AV.vals_eq]
theorem AV.oks_take {m : Mem} {l : List AV} (n : Nat) (h : AV.oks m l) : AV.oks m (l.take n) := by
  rw [AV.oks_iff] at *; exact fun a ha => h a (List.mem_of_mem_take ha)
theorem AV.oks_drop {m : Mem} {l : List AV} (n : Nat) (h : AV.oks m l) : AV.oks m (l.drop n) := by
  rw [AV.oks_iff] at *; exact fun a ha => h a (List.mem_of_mem_drop ha)
theorem AV.oks_get {m : Mem} {l : List AV} {i : Nat} {a : AV} (h : AV.oks m l) (hi : l[i]? = some a) : a.ok m := by
  rw [AV.oks_iff] at h; exact h a (List.mem_of_getElem? hi)

/-- The cells from an address on hold these values. -/
def At (w : World) (b o : Nat) (vs : List Value) : Prop := ∀ (j : Nat) (x : Value), vs[j]? = some x → w.cell? ⟨b, o + j, none⟩ = some x

theorem At.drop {w : World} {b o : Nat} {vs : List Value} (h : At w b o vs) (n : Nat) : At w b (o + n) (vs.drop n) := by
  intro j x hx
  rw [List.getElem?_drop] at hx
  have := h (n + j) x hx
  rwa [show o + (n + j) = o + n + j by omega] at this

theorem readK_sound {t : TypeId} {cs : List AV} {K : AV → Prop} (h : readK P t cs K) :
    ∃ x, K x ∧ ∀ (w : World) (b o : Nat) (m : Mem), At w b o (AV.vals cs) → AV.oks m cs → (loadVar t ⟨b, o, none⟩).run P w = .ok x.val w ∧ x.ok m := by
  unfold readK at h
  split at h
  · rename_i hagg
    split at h
    · rename_i n hn
      obtain ⟨hle, hK⟩ := h
      refine ⟨_, hK, fun w b o m hat hok => ⟨?_, AV.oks_take n hok⟩⟩
      have hl : (loadCells ⟨b, o, none⟩ (AV.vals (cs.take n)).length).run P w = .ok (AV.vals (cs.take n)).toArray w :=
        run_loadCells_list (P := P) w ⟨b, o, none⟩ (AV.vals (cs.take n)) (fun j v hv => by
          rw [addr_add]
          refine hat j v ?_
          rw [AV.vals_take] at hv
          rw [List.getElem?_take] at hv
          split at hv
          · exact hv
          · cases hv)
      have hlen : (AV.vals (cs.take n)).length = n := by rw [AV.vals_length, List.length_take]; omega
      rw [hlen] at hl
      simp only [loadVar, Sem.run_bind, aggT_true hagg, Result.andThen_ok, if_true, run_sizeOf' hn, hl, Sem.run_pure]
      rfl
    · exact h.elim
  · rename_i hagg
    have hagg' : aggT P t = false := by simpa using hagg
    obtain ⟨hk, h⟩ := h
    split at h
    · rename_i c rest
      refine ⟨c, h, fun w b o m hat hok => ⟨?_, hok.1⟩⟩
      have h0 := hat 0 c.val (by simp [AV.vals])
      simp only [loadVar, Sem.run_bind, aggT_false hagg' hk, Result.andThen_ok, Bool.false_eq_true, if_false]
      rw [Nat.add_zero] at h0
      simp [load, Sem.run, h0]
    · exact h.elim

theorem RefOk.at {m : Mem} {w : World} (hm : ∀ b o x, m b o = some x → w.cell? ⟨b, o, none⟩ = some x) {p : Value} {vs : List Value} (h : RefOk m p vs) :
    ∃ b o, p = .pointer (some ⟨b, o, none⟩) ∧ At w b o vs := by
  obtain ⟨b, o, e, hr⟩ := h
  exact ⟨b, o, e, fun j x hx => hm _ _ _ (hr j x hx)⟩

/-- A pure operation: it yields x, whatever the frame and the world. -/
def Yields (P : Program) (st : St) (op : Op) (x : AV) : Prop :=
  ∀ F a w m, Rel F st a w → RelM F st a w m → (∀ o : Oper, o.op = op → (execOp a.eval o).run P w = .ok (.value x.val) w) ∧ x.ok m

theorem loadK_sound {st : St} {t : TypeId} {o : Operand} {a : AV} {K : AV → Prop} (he : st.ev o = some a) (h : loadK P st.hp t a K) : ∃ x, K x ∧ Yields P st (.load t o) x := by
  unfold loadK at h
  split at h
  · rename_i p cs
    obtain ⟨x, hK, hx⟩ := readK_sound h
    refine ⟨x, hK, fun F ac w m hr hm => ?_⟩
    have hok := hm.ok he
    obtain ⟨b, off, rfl, hat⟩ := hok.1.at hm.hp.mem
    obtain ⟨h1, h2⟩ := hx w b off m hat hok.2
    refine ⟨fun op ho => ?_, h2⟩
    have hv := hr.eval he
    simp only [AV.val] at hv
    simp [execOp, ho, hv, Instr.loadAt, Instr.sureAddr, h1]
  · rename_i b off
    split at h
    · rename_i T cs hb
      obtain ⟨x, hK, hx⟩ := readK_sound h
      refine ⟨x, hK, fun F ac w m hr hm => ?_⟩
      obtain ⟨_, hheap, hoks, _⟩ := hm.hp.blk b T cs hb
      have hat : At w b off (AV.vals (cs.drop off)) := by
        intro j x hx
        rw [AV.vals_drop, List.getElem?_drop] at hx
        rw [cell_of_row w b (off + j) _ T (0, 0) hheap]
        simpa using hx
      obtain ⟨h1, h2⟩ := hx w b off m hat (AV.oks_drop off hoks)
      refine ⟨fun op ho => ?_, h2⟩
      have hv := hr.eval he
      simp only [AV.val] at hv
      simp [execOp, ho, hv, Instr.loadAt, Instr.sureAddr, h1]
    · exact h.elim
  · exact h.elim

theorem RefOk.padd {m : Mem} {p : Value} {cs : List AV} (h : RefOk m p (AV.vals cs)) (n : Nat) : RefOk m (padd p n) (AV.vals (cs.drop n)) := by
  obtain ⟨b, o, rfl, hr⟩ := h
  refine ⟨b, o + n, padd_mk b o n, fun j x hx => ?_⟩
  rw [AV.vals_drop, List.getElem?_drop] at hx
  have := hr (n + j) x hx
  rwa [show o + (n + j) = o + n + j by omega] at this

theorem fieldPlace_run {w : World} {b o off n : Nat} {f : Field} (hn : (szT P f.type).getD 0 = n) (h0 : n ≠ 0) (ho : f.offset = off) :
    (fieldPlace ⟨b, o, none⟩ f).run P w = .ok ⟨b, o + off, none⟩ w := by
  cases hs : szT P f.type with
  | none => simp [hs] at hn; omega
  | some k =>
    have hk : k = n := by simpa [hs] using hn
    subst hk; subst ho
    simp only [fieldPlace, Sem.run_bind, run_sizeOf' hs, Result.andThen_ok, if_neg h0, Sem.run_pure, addr_add]

theorem fieldAddrK_sound {st : St} {s : TypeId} {f : Nat} {o : Operand} {a : AV} {K : AV → Prop} (he : st.ev o = some a) (h : fieldAddrK P s a f K) : ∃ x, K x ∧ Yields P st (.fieldAddr s o f) x := by
  unfold fieldAddrK at h
  split at h
  · rename_i fs hk
    obtain ⟨fl, hu, rfl⟩ := kind_st hk
    split at h
    · rename_i off ty n hf
      rw [List.getElem?_map] at hf
      obtain ⟨fd, hfd, e⟩ := Option.map_eq_some_iff.1 hf
      simp only [Prod.mk.injEq] at e
      obtain ⟨e1, _, e3⟩ := e
      obtain ⟨h0, h⟩ := h
      have hfd' : fl[f]? = some fd := by simpa using hfd
      split at h
      · rename_i p cs
        refine ⟨_, h, fun F ac w m hr hm => ?_⟩
        have hok := hm.ok he
        refine ⟨fun op ho => ?_, hok.1.padd off, AV.oks_drop off hok.2⟩
        obtain ⟨b, o', rfl, _⟩ := hok.1
        have hv := hr.eval he
        simp only [AV.val] at hv
        simp [execOp, ho, hv, Instr.fieldAt, run_underlying hu, hfd', Instr.sureAddr, fieldPlace_run (P := P) (w := w) (b := b) (o := o') e3 h0 e1, AV.val, padd_mk]
      · rename_i b o'
        refine ⟨_, h, fun F ac w m hr hm => ⟨fun op ho => ?_, trivial⟩⟩
        have hv := hr.eval he
        simp only [AV.val] at hv
        simp [execOp, ho, hv, Instr.fieldAt, run_underlying hu, hfd', Instr.sureAddr, fieldPlace_run (P := P) (w := w) (b := b) (o := o') e3 h0 e1, AV.val]
      · exact h.elim
    · exact h.elim
  · exact h.elim

theorem AV.cells_of (x : AV) {m : Mem} (hx : x.ok m) : AV.vals x.cells = x.val.cells.toList := by
  cases x with
  | v y =>
    cases y <;> simp [AV.cells, AV.vals, AV.val, Value.cells]
    rename_i cs
    simp [AV.vals_eq, List.map_map, Function.comp_def, AV.val]
  | lst sz h xs => obtain ⟨a, cap, rfl, _⟩ := hx.1; simp [AV.cells, AV.vals, AV.val, Value.cells]
  | ref p cs => obtain ⟨b, o, rfl, _⟩ := hx.1; simp [AV.cells, AV.vals, AV.val, Value.cells]
  | agg cs => simp [AV.cells, AV.val, Value.cells]
  | tup l => simp [AV.cells, AV.vals, AV.val, Value.cells]
  | ifc t a => simp [AV.cells, AV.vals, AV.val, Value.cells]
  | fn f a b => simp [AV.cells, AV.vals, AV.val, Value.cells]

theorem AV.oks_cells (x : AV) {m : Mem} (hx : x.ok m) : AV.oks m x.cells := by
  cases x with
  | v y =>
    cases y <;> first | exact ⟨trivial, trivial⟩ | (simp only [AV.cells]; rw [AV.oks_iff]; intro a ha; obtain ⟨z, _, rfl⟩ := List.mem_map.1 ha; trivial)
  | agg cs => exact hx
  | _ => exact ⟨hx, trivial⟩
end
end Go.AL
/- What the pure operations yield: the rest, and all of them together. -/
namespace Go.AL
section
variable {P : Program}

theorem indexAddrK_sound {st : St} {t : TypeId} {o oi : Operand} {a i : AV} {K : AV → Prop} (he : st.ev o = some a) (hi : st.ev oi = some i) (h : indexAddrK P t a i K) : ∃ x, K x ∧ Yields P st (.indexAddr t o oi) x := by
  unfold indexAddrK at h
  split at h
  · rename_i e k i hk
    have hu := kind_sl hk
    split at h
    · rename_i n hn
      split at h
      · rename_i sz hd xs
        obtain ⟨rfl, h0, h⟩ := h
        split at h
        · rename_i x hx
          refine ⟨_, h, fun F ac w m hr hm => ?_⟩
          have hok := hm.ok he
          obtain ⟨ad, cap, rfl, hcap, hmax, hsz, hrow⟩ := hok.1
          have hxv : (AV.vals xs)[i.toNat]? = some x.val := by rw [AV.vals_getElem?, hx]; rfl
          obtain ⟨b, off, rfl, hr2⟩ := hrow (by intro hnil; rw [hnil] at hxv; cases hxv)
          have hlt : i.toNat < xs.length := (List.getElem?_eq_some_iff.1 hx).1
          have hxok := AV.oks_get hok.2 hx
          have hv := hr.eval he
          have hvi := hr.eval hi
          simp only [AV.val] at hv hvi
          refine ⟨fun op ho => ?_, ⟨b, off + i.toNat * sz, by simp [hadd, addr_add], fun j y hy => ?_⟩, AV.oks_cells x hxok⟩
          · have hlt' : i < ((AV.vals xs).length : Int) := by rw [AV.vals_length]; omega
            have e2 : P.elem t = e := by simp [Program.elem, hu]
            have hu2 : P.underlying t = some (.slice (P.elem t)) := by rw [e2]; exact hu
            simp only [execOp, ho, hv, hvi, AV.val]
            simp only [Sem.run_bind, run_indexAt_slice w t ⟨b, off, none⟩ (AV.vals xs).length cap k i hu2, if_pos (And.intro h0 hlt'), e2, run_sizeOf' hn, Result.andThen_ok, Sem.run_pure, hadd, addr_add]
          · rw [AV.cells_of x hxok] at hy
            exact hr2 i.toNat x.val hxv j y (by simpa using hy)
        · exact h.elim
      · rename_i b off len cap
        obtain ⟨h0, h1, h⟩ := h
        refine ⟨_, h, fun F ac w m hr hm => ⟨fun op ho => ?_, trivial⟩⟩
        have hv := hr.eval he
        have hvi := hr.eval hi
        simp only [AV.val] at hv hvi
        have e2 : P.elem t = e := by simp [Program.elem, hu]
        have hu2 : P.underlying t = some (.slice (P.elem t)) := by rw [e2]; exact hu
        simp only [execOp, ho, hv, hvi, AV.val]
        simp only [Sem.run_bind, run_indexAt_slice w t ⟨b, off, none⟩ len cap k i hu2, if_pos (And.intro h0 h1), e2, run_sizeOf' hn, Result.andThen_ok, Sem.run_pure, addr_add]
      · exact h.elim
    · exact h.elim
  · rename_i len e k i hk
    have hu := kind_ar hk
    split at h
    · rename_i n hn
      obtain ⟨h0, h1, h⟩ := h
      have e2 : P.elem t = e := by simp [Program.elem, hu]
      have e3 : P.arrayLen t = len := by simp [Program.arrayLen, hu]
      have hu2 : P.underlying t = some (.array (P.arrayLen t) (P.elem t)) := by rw [e2, e3]; exact hu
      split at h
      · rename_i p cs
        refine ⟨_, h, fun F ac w m hr hm => ?_⟩
        have hok := hm.ok he
        refine ⟨fun op ho => ?_, hok.1.padd _, AV.oks_drop _ hok.2⟩
        obtain ⟨b, off, rfl, _⟩ := hok.1
        have hv := hr.eval he
        have hvi := hr.eval hi
        simp only [AV.val] at hv hvi
        simp only [execOp, ho, hv, hvi, AV.val]
        simp only [Sem.run_bind, run_indexAt_array w t ⟨b, off, none⟩ k i hu2, e3, if_pos (And.intro h0 h1), e2, run_sizeOf' hn, Result.andThen_ok, Sem.run_pure, padd_mk, addr_add]
      · rename_i b off
        refine ⟨_, h, fun F ac w m hr hm => ⟨fun op ho => ?_, trivial⟩⟩
        have hv := hr.eval he
        have hvi := hr.eval hi
        simp only [AV.val] at hv hvi
        simp only [execOp, ho, hv, hvi, AV.val]
        simp only [Sem.run_bind, run_indexAt_array w t ⟨b, off, none⟩ k i hu2, e3, if_pos (And.intro h0 h1), e2, run_sizeOf' hn, Result.andThen_ok, Sem.run_pure, addr_add]
      · exact h.elim
    · exact h.elim
  · exact h.elim

theorem indexK_sound {st : St} {t : TypeId} {o oi : Operand} {a i : AV} {K : AV → Prop} (he : st.ev o = some a) (hi : st.ev oi = some i) (h : indexK P t a i K) : ∃ x, K x ∧ Yields P st (.index t o oi) x := by
  unfold indexK at h
  split at h
  · rename_i s k i hk
    have hu := kind_s hk
    obtain ⟨h0, h⟩ := h
    split at h
    · rename_i b hb
      refine ⟨_, h, fun F ac w m hr hm => ⟨fun op ho => ?_, trivial⟩⟩
      have hv := hr.eval he
      have hvi := hr.eval hi
      simp only [AV.val] at hv hvi
      simp [execOp, ho, hv, hvi, Instr.index, asIntOf, run_underlying hu, h0, hb, AV.val]
    · exact h.elim
  · exact h.elim

theorem lenK_sound {st : St} {t : TypeId} {o : Operand} {a : AV} {K : AV → Prop} (he : st.ev o = some a) (h : lenK P st.hp t a K) : ∃ x, K x ∧ Yields P st (.call { callee := .builtin .len, args := #[o], argTypes := #[t] }) x := by
  have main : ∀ (x : Value), (∀ (F : Fr) (ac : Act) (w : World) (m : Mem), Rel F st ac w → RelM F st ac w m → (Builtin.len_ #[t] 0 #[ac.eval o]).run P w = .ok x w) → Yields P st (.call { callee := .builtin .len, args := #[o], argTypes := #[t] }) (.v x) := by
    intro x hx F ac w m hr hm
    refine ⟨fun op ho => ?_, trivial⟩
    have := hx F ac w m hr hm
    have e : (Builtin.len_ #[t] op.type #[ac.eval o]).run P w = .ok x w := this
    simp [execOp, ho, resolve, invoke, builtin, e, AV.val]
  unfold lenK at h
  split at h
  · rename_i s hk
    refine ⟨_, h, main _ fun F ac w m hr hm => ?_⟩
    have hv := hr.eval he
    simp only [AV.val] at hv
    simp [Builtin.len_, run_underlying (kind_s hk), hv, goInt]
  · rename_i e sz hd xs hk
    refine ⟨_, h, main _ fun F ac w m hr hm => ?_⟩
    have hv := hr.eval he
    obtain ⟨ad, cap, rfl, _⟩ := (hm.ok he).1
    simp only [AV.val] at hv
    simp [Builtin.len_, run_underlying (kind_sl hk), hv, goInt, AV.vals_length]
  · rename_i e b n c hk
    refine ⟨_, h, main _ fun F ac w m hr hm => ?_⟩
    have hv := hr.eval he
    simp only [AV.val] at hv
    simp [Builtin.len_, run_underlying (kind_sl hk), hv, goInt]
  · rename_i k e b hk
    split at h
    · rename_i es hes
      refine ⟨_, h.2, main _ fun F ac w m hr hm => ?_⟩
      have hv := hr.eval he
      obtain ⟨en, clock, hh, hl, _⟩ := (hm.hp.mp b es hes).2.1.map h.1
      have hlen : en.size = es.length := by have := congrArg List.length hl; simpa using this
      simp only [AV.val] at hv
      simp [Builtin.len_, run_underlying (kind_mp hk), hv, goInt, getObj, Sem.run, hh, hlen]
    · exact h.elim
  · rename_i k e hk
    refine ⟨_, h, main _ fun F ac w m hr hm => ?_⟩
    have hv := hr.eval he
    simp only [AV.val] at hv
    simp [Builtin.len_, run_underlying (kind_mp hk), hv, goInt]
  · exact h.elim

theorem extractK_sound {st : St} {i : Nat} {o : Operand} {a : AV} {K : AV → Prop} (he : st.ev o = some a) (h : extractK a i K) : ∃ x, K x ∧ Yields P st (.extract o i) x := by
  unfold extractK at h
  split at h
  · rename_i l
    obtain ⟨x, hx, hK⟩ := withAV_elim h
    refine ⟨x, hK, fun F ac w m hr hm => ⟨fun op ho => ?_, AV.oks_get (hm.ok he) hx⟩⟩
    have hv := hr.eval he
    simp only [AV.val] at hv
    simp [execOp, ho, hv, Instr.extract, AV.vals_getElem?, hx]
  · exact h.elim

theorem run_part {t : TypeId} {cs : List AV} {off : Nat} {K : AV → Prop} (h : readK P t (cs.drop off) K) :
    ∃ x, K x ∧ (∀ w, (part t (AV.vals cs).toArray off).run P w = .ok x.val w) ∧ ∀ m, AV.oks m cs → x.ok m := by
  unfold readK at h
  split at h
  · rename_i hagg
    split at h
    · rename_i n hn
      obtain ⟨hle, hK⟩ := h
      refine ⟨_, hK, fun w => ?_, fun m hok => AV.oks_take n (AV.oks_drop off hok)⟩
      simp only [part, Sem.run_bind, aggT_true hagg, Result.andThen_ok, if_true, run_sizeOf' hn, Sem.run_pure, AV.val]
      congr 2
      rw [AV.vals_take, AV.vals_drop]
      apply Array.ext'
      simp [List.extract_eq_take_drop]
    · exact h.elim
  · rename_i hagg
    have hagg' : aggT P t = false := by simpa using hagg
    obtain ⟨hk, h⟩ := h
    split at h
    · rename_i c rest hd
      have hc : cs[off]? = some c := by
        have := congrArg (fun l => l[0]?) hd
        simpa using this
      refine ⟨c, h, fun w => ?_, fun m hok => AV.oks_get hok hc⟩
      simp only [part, Sem.run_bind, aggT_false hagg' hk, Result.andThen_ok, Bool.false_eq_true, if_false]
      simp [AV.vals_getElem?, hc]
    · exact h.elim

theorem fieldK_sound {st : St} {s : TypeId} {f : Nat} {o : Operand} {a : AV} {K : AV → Prop} (he : st.ev o = some a) (h : fieldK P s a f K) : ∃ x, K x ∧ Yields P st (.field s o f) x := by
  unfold fieldK at h
  split at h
  · rename_i fs cs hk
    obtain ⟨fl, hu, rfl⟩ := kind_st hk
    split at h
    · rename_i off ty n hf
      rw [List.getElem?_map] at hf
      obtain ⟨fd, hfd, e⟩ := Option.map_eq_some_iff.1 hf
      simp only [Prod.mk.injEq] at e
      obtain ⟨e1, e2, e3⟩ := e
      have hfd' : fl[f]? = some fd := by simpa using hfd
      obtain ⟨x, hK, hx, hok⟩ := run_part h
      refine ⟨x, hK, fun F ac w m hr hm => ⟨fun op ho => ?_, hok m (hm.ok he)⟩⟩
      have hv := hr.eval he
      simp only [AV.val] at hv
      simp [execOp, ho, hv, Instr.field, run_underlying hu, hfd', asAgg, e1, e2, hx w]
    · exact h.elim
  · exact h.elim
end
end Go.AL
