/- Regions: operations one behind the other, guards, calls. -/
import Derived.Test.YtfdlfcafcjhpmaaCAL4
namespace Go.AL
section
variable {P : Program}

def dstOk (st : St) (d : Option Nat) : Prop := match d with | some d => d < st.n | none => True
@[go_sem] theorem dstOk_some (st : St) (d : Nat) : dstOk st (some d) = (d < st.n) := rfl
@[go_sem] theorem dstOk_none (st : St) : dstOk st none = True := rfl
@[go_sem] theorem St.putO_some (st : St) (d : Nat) (x : AV) : st.putO (some d) x = st.put d x := rfl
@[go_sem] theorem St.putO_none (st : St) (x : AV) : st.putO none x = st := rfl

theorem RelM.put {F : Fr} {st : St} {a : Act} {w : World} {m : Mem} (hm : RelM F st a w m) (hn : a.tmps.size = st.n) {d : Option Nat} {x : AV} (hd : dstOk st d) (hx : x.ok m) : RelM F (st.putO d x) (a.put d x.val) w m := by
  cases d with
  | none => exact hm
  | some d =>
    refine ⟨hm.le, hm.hp, fun i y hy => ?_⟩
    simp only [St.putO, St.put] at hy
    simp only [Act.put]
    by_cases hi : i = d
    · subst hi
      rw [if_pos rfl] at hy
      obtain rfl := Option.some.inj hy
      have hlt : i < a.tmps.size := by rw [hn]; exact hd
      exact ⟨by rw [Array.getElem?_setIfInBounds_self_of_lt hlt], hx⟩
    · rw [if_neg hi] at hy
      have := hm.sl i y hy
      exact ⟨by rw [Array.getElem?_setIfInBounds_ne (by omega)]; exact this.1, this.2⟩

theorem Act.put_defers (a : Act) (d : Option Nat) (v : Value) : (a.put d v).defers = a.defers := by cases d <;> rfl
theorem Act.put_size (a : Act) (d : Option Nat) (v : Value) : (a.put d v).tmps.size = a.tmps.size := by cases d <;> simp [Act.put]
theorem St.putO_n (st : St) (d : Option Nat) (x : AV) : (st.putO d x).n = st.n := by cases d <;> rfl
theorem St.putO_hp (st : St) (d : Option Nat) (x : AV) : (st.putO d x).hp = st.hp := by cases d <;> rfl

theorem Rel.putM {F : Fr} {st : St} {a : Act} {w : World} {m : Mem} (hr : Rel F st a w) (hm : RelM F st a w m) {d : Option Nat} {x : AV} (hd : dstOk st d) (hx : x.ok m) : Rel F (st.putO d x) (a.put d x.val) w :=
  ⟨hr.lo, by rw [Act.put_defers]; exact hr.df, by rw [Act.put_size, St.putO_n]; exact hr.n, m, hm.put hr.n hd hx⟩

/-- A pure operation. -/
theorem aop_pure {o : Oper} {K : St → Prop} {st : St} (h : pop P st o.op fun x => dstOk st o.dst ∧ K (st.putO o.dst x)) : AOp P o K st := by
  obtain ⟨x, ⟨hd, hK⟩, hy⟩ := pop_sound h
  intro F a w hr K' Q hK'
  obtain ⟨m, hm⟩ := hr.ex
  obtain ⟨h1, h2⟩ := hy F a w m hr hm
  unfold Oper.wp
  rw [h1 o rfl]
  exact hK' _ _ ⟨_, hK, hr.putM hm hd h2⟩

/-! ### Guards -/
def guardSlot (ops : Array Oper) (o : Oper) : Option (Nat × Bool) :=
  match o.guard with
  | none => none
  | some (j, want) => ((ops[j]?).bind (·.dst)).map fun d => (d, want)

def boolV : Value → Option Bool | .bool b => some b | _ => none

theorem yielded_eq {F : Fr} {st : St} {a : Act} {w : World} (hr : Rel F st a w) {ops : Array Oper} {j d : Nat} (hj : (ops[j]?).bind (·.dst) = some d) {x : Value} (hx : st.sl d = some (.v x)) :
    yielded ops a.tmps j = boolV x := by
  obtain ⟨m, hm⟩ := hr.ex
  have := (hm.sl d _ hx).1
  simp only [yielded, hj, Option.bind_some, this, AV.val]
  cases x <;> rfl

/-- The operation is carried out. -/
theorem al_run {ops : Array Oper} {K : St → Prop} {st : St} {o : Oper} {rest : List Oper} {j d : Nat} {want : Bool} (hg : o.guard = some (j, want)) (hj : (ops[j]?).bind (·.dst) = some d)
    (hx : st.sl d = some (.v (.bool want))) (h : AOp P o (fun st => AList P ops rest K st) st) : AList P ops (o :: rest) K st := by
  intro F a w hr Q hQ
  refine wpList_step fun K' hK => ?_
  have hw : Region.wanted o (yielded ops a.tmps) = true := by simp [Region.wanted, hg, yielded_eq hr hj hx, boolV]
  rw [if_pos hw]
  refine h F a w hr K' Q ?_
  rintro a' w' ⟨st', k, r⟩
  exact hK a' w' (k F a' w' r Q hQ)

/-- The operation is left out. -/
theorem al_skip {ops : Array Oper} {K : St → Prop} {st : St} {o : Oper} {rest : List Oper} {j d : Nat} {want : Bool} (hg : o.guard = some (j, want)) (hj : (ops[j]?).bind (·.dst) = some d)
    {x : Value} (hx : st.sl d = some (.v x)) (hne : x ≠ .bool want) (hd : dstOk st o.dst) (h : AList P ops rest K (st.putO o.dst (.v undef))) : AList P ops (o :: rest) K st := by
  intro F a w hr Q hQ
  refine wpList_step fun K' hK => ?_
  have hw : Region.wanted o (yielded ops a.tmps) = false := by
    simp only [Region.wanted, hg, yielded_eq hr hj hx]
    cases x <;> simp [boolV]
    intro e; exact hne (by rw [e])
  rw [if_neg (by simp [hw])]
  obtain ⟨m, hm⟩ := hr.ex
  exact hK _ _ (h F _ w (hr.putM hm hd (x := .v undef) trivial) Q hQ)


/-- Keeps simp out of 'a': a type hangs on it. -/
structure Fix.{u} {α : Sort u} (a : α) : Type where

/-! ### Calls -/
theorem ACalls.mono {f : FuncId} {args : List AV} {hp : Hp} {R R' : AV → Hp → Prop} (h : ACalls P f args hp R) (hR : ∀ r hp', R r hp' → R' r hp') : ACalls P f args hp R' :=
  ⟨h.1, fun F w hr => (h.2 F w hr).mono fun _ _ ⟨r, hp', h1, h2, h3⟩ => ⟨r, hp', hR _ _ h1, h2, h3⟩⟩

/-- A call that stands to be met. -/
def callX (P : Program) (f : FuncId) (args : List AV) (hp : Hp) (R : AV → Hp → Prop) (_ : Fix R) : Prop := ACalls P f args hp R
theorem callX_by {f : FuncId} {args : List AV} {hp : Hp} {R R' : AV → Hp → Prop} {d : Fix R'} (h : ACalls P f args hp R) (hR : ∀ r hp', R r hp' → R' r hp') : callX P f args hp R' d := h.mono hR
theorem Lo.trans {F : Fr} {w w' : World} {m : Mem} (h : Lo F w) (h' : Lo ⟨m, w, F.base⟩ w') : Lo F w' :=
  ⟨h'.os.trans h.os, h'.tape.trans h.tape, h'.output.trans h.output, Nat.le_trans h.size h'.size, fun k hk => (h'.low k hk).trans (h.low k hk), h'.bs⟩

theorem Lo.self (m : Mem) (w : World) (base : Nat) (h : base ≤ w.heap.size) : Lo ⟨m, w, base⟩ w := ⟨rfl, rfl, rfl, Nat.le_refl _, fun _ _ => rfl, h⟩

/-- What a value that is called comes to: the function and the arguments that go ahead and behind. -/
def calleeOf : AV → Option (FuncId × List AV × List AV)
  | .v (.func (.func f) a b) => some (f, a.toList.map AV.v, b.toList.map AV.v)
  | .fn (.func f) a b => some (f, a, b)
  | _ => none

theorem map_v_vals (l : List Value) : AV.vals (l.map AV.v) = l := by simp [AV.vals_eq, Function.comp_def, AV.val]
theorem map_v_oks (m : Mem) (l : List Value) : AV.oks m (l.map AV.v) := by
  rw [AV.oks_iff]; intro a ha; obtain ⟨z, _, rfl⟩ := List.mem_map.1 ha; trivial

theorem calleeOf_val {x : AV} {f : FuncId} {a b : List AV} (h : calleeOf x = some (f, a, b)) : x.val = .func (.func f) (AV.vals a).toArray (AV.vals b).toArray ∧ ∀ m, x.ok m → AV.oks m a ∧ AV.oks m b := by
  unfold calleeOf at h
  split at h
  · simp only [Option.some.injEq, Prod.mk.injEq] at h
    obtain ⟨rfl, rfl, rfl⟩ := h
    exact ⟨by simp [AV.val, map_v_vals], fun m _ => ⟨map_v_oks _ _, map_v_oks _ _⟩⟩
  · simp only [Option.some.injEq, Prod.mk.injEq] at h
    obtain ⟨rfl, rfl, rfl⟩ := h
    exact ⟨rfl, fun m h => h⟩
  · cases h

theorem AV.oks_append {m : Mem} {l k : List AV} (h : AV.oks m l) (h' : AV.oks m k) : AV.oks m (l ++ k) := by
  rw [AV.oks_iff] at *; intro a ha; rcases List.mem_append.1 ha with h1 | h1
  · exact h a h1
  · exact h' a h1

def aval (P : Program) (o : Oper) (f : Operand) (args : Array Operand) (K : St → Prop) (st : St) : Prop :=
  match st.ev f, evs st args with
  | some fv, some xs => (match calleeOf fv with
    | some (k, a, b) => dstOk st o.dst ∧ callX P k (a ++ xs ++ b) st.hp (fun r hp' => K ((st.setHp hp').putO o.dst r)) ⟨⟩
    | none => False)
  | _, _ => False

theorem run_callFunc {w : World} {f : FuncId} {args : Array Value} (h : Callable P f) : (callFunc f args).run P w = .ok (.enter f args) w := by
  obtain ⟨fn, hf, h1, h2⟩ := h
  simp only [callFunc, Sem.run_bind, run_program, Result.andThen_ok, hf]
  rw [if_neg (by simpa using h1), if_neg (by simp [h2])]
  rfl

theorem aop_call {o : Oper} {f : Operand} {args : Array Operand} {ts : Array TypeId} (ho : o.op = .call { callee := .value f, args := args, argTypes := ts }) {K : St → Prop} {st : St}
    (h : aval P o f args K st) : AOp P o K st := by
  unfold aval at h
  split at h
  · rename_i fv xs hf hxs
    split at h
    · rename_i k a b hc
      obtain ⟨hd, hcall⟩ := h
      intro F ac w hr K' Q hK'
      obtain ⟨m, hm⟩ := hr.ex
      obtain ⟨hv, hoks⟩ := calleeOf_val hc
      obtain ⟨e1, o1⟩ := evs_arr hr hm hxs
      obtain ⟨oa, ob⟩ := hoks m (hm.ok hf)
      unfold Oper.wp
      have hrun : (execOp ac.eval o).run P w = .ok (.enter k (AV.vals (a ++ xs ++ b)).toArray) w := by
        simp only [execOp, ho, resolve, hr.eval hf, hv, Deferred.ofValue, Sem.run_bind, Sem.run_pure, Result.andThen_ok, invoke, e1, run_callFunc hcall.1]
        simp [AV.vals_append]
      rw [hrun]
      simp only [Oper.upon]
      refine (hcall.2 ⟨m, w, F.base⟩ w ⟨Lo.self _ _ _ hr.lo.bs, m, Mem.le_refl m, hm.hp, AV.oks_append (AV.oks_append oa o1) ob⟩).mono ?_
      rintro e w' ⟨r, hp', hKr, rfl, hlo, m', hle, hhp, hro, _⟩
      refine hK' _ _ ⟨_, hKr, hr.lo.trans hlo, by rw [Act.put_defers]; exact hr.df, by rw [Act.put_size, St.putO_n]; exact hr.n, m', ?_⟩
      have hm2 : RelM F (st.setHp hp') ac w' m' := ⟨Mem.le_trans hm.le hle, hhp, fun i x hx => ⟨(hm.sl i x hx).1, AV.ok_mono hle x (hm.sl i x hx).2⟩⟩
      exact hm2.put hr.n hd hro
    · exact h.elim
  · exact h.elim
end
end Go.AL
