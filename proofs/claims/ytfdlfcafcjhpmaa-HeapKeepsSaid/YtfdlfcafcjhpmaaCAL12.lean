/- Symbolic execution as one function into Prop, and that it is sound. -/
import Derived.Test.YtfdlfcafcjhpmaaCAL11S
set_option linter.unusedVariables false
namespace Go.AL
section
variable {P : Program}

/-- A branch: neither side is looked into before the test is decided. -/
def brK (b : Bool) (A B : Prop) (_ : Fix (A ∧ B)) : Prop := if b = true then A else B
@[go_sem ↓] theorem brK_true (A B : Prop) (d : Fix (A ∧ B)) : brK true A B d = A := rfl
@[go_sem ↓] theorem brK_false (A B : Prop) (d : Fix (A ∧ B)) : brK false A B d = B := rfl
@[go_sem] theorem brK_true' (A B : Prop) (d : Fix (A ∧ B)) : brK true A B d = A := rfl
@[go_sem] theorem brK_false' (A B : Prop) (d : Fix (A ∧ B)) : brK false A B d = B := rfl
@[go_sem ↓] theorem brK_not (b : Bool) (A B : Prop) (d : Fix (A ∧ B)) : brK (!b) A B d = brK b B A ⟨⟩ := by cases b <;> rfl
@[go_sem] theorem brK_not' (b : Bool) (A B : Prop) (d : Fix (A ∧ B)) : brK (!b) A B d = brK b B A ⟨⟩ := by cases b <;> rfl
theorem brK_mk {b : Bool} {A B : Prop} {d : Fix (A ∧ B)} (h1 : b = true → A) (h2 : b = false → B) : brK b A B d := by
  cases b
  · exact h2 rfl
  · exact h1 rfl

/-- A loop, or a region that draws its order. -/
def awpX (P : Program) (c : Code) (Q : Exit → St → Prop) (st : St) (_ : Fix c) (_ : Fix Q) : Prop := AWp P c Q st
/-- An operation that wants a law of its own. -/
def aopX (P : Program) (o : Oper) (K : St → Prop) (st : St) (_ : Fix o) (_ : Fix K) : Prop := AOp P o K st

def pop2 (P : Program) (st : St) (op : Op) (K : AV → Prop) : Prop :=
  match op with
  | .lookup t m k ok => withAV (st.ev m) fun a => withAV (st.ev k) fun b => lookupK P st.hp t a b ok K
  | op => pop P st op K

theorem pop2_sound {st : St} {op : Op} {K : AV → Prop} (h : pop2 P st op K) : ∃ x, K x ∧ Yields P st op x := by
  unfold pop2 at h
  split at h
  · obtain ⟨a, ha, hK⟩ := withAV_elim h
    obtain ⟨b, hb, hK⟩ := withAV_elim hK
    exact lookupK_sound ha hb hK
  · exact pop_sound h

theorem aop_pure2 {o : Oper} {K : St → Prop} {st : St} (h : pop2 P st o.op fun x => dstOk st o.dst ∧ K (st.putO o.dst x)) : AOp P o K st := by
  obtain ⟨x, ⟨hd, hK⟩, hy⟩ := pop2_sound h
  intro F a w hr K' Q hK'
  obtain ⟨m, hm⟩ := hr.ex
  obtain ⟨h1, h2⟩ := hy F a w m hr hm
  unfold Oper.wp
  rw [h1 o rfl]
  exact hK' _ _ ⟨_, hK, hr.putM hm hd h2⟩

def storeK (P : Program) (mu : List Nat) (o : Oper) (t : TypeId) (p x : Operand) (K : St → Prop) (st : St) : Prop :=
  o.dst = none ∧ match st.ev p, st.ev x with
  | some (.v (.pointer (some ⟨b, off, none⟩))), some y => (match st.hp.blk b, szT P t with
    | some (T, cs), some n => n = y.cells.length ∧ y.cells.all AV.one = true ∧
      (match p with
      | .tmp pn => if mu.contains pn = true then (off + y.cells.length ≤ cs.length ∧ K (st.setHp (st.hp.setBlk b T (splice cs off y.cells))))
          else if (off == 0 && y.cells.length == cs.length) = true then K ((st.setHp (st.hp.delBlk b)).put pn (.ref (.pointer (some ⟨b, 0, none⟩)) y.cells)) else (off + y.cells.length ≤ cs.length ∧ K (st.setHp (st.hp.setBlk b T (splice cs off y.cells))))
      | _ => off + y.cells.length ≤ cs.length ∧ K (st.setHp (st.hp.setBlk b T (splice cs off y.cells))))
    | _, _ => False)
  | _, _ => False

def buildK (P : Program) (o : Oper) (t : TypeId) (parts : Array (Nat × Operand)) (K : St → Prop) (st : St) : Prop :=
  match kindT P t, zeroT P t, evParts st parts.toList with
  | .st fs, some z, some xs => fs.all (fun f => (szT P f.2.1).isSome) = true ∧ (match fillA (fun i => (fs[i]?).map fun f => (f.1, f.2.2)) (z.cells.toList.map AV.v) xs with
    | some cells => dstOk st o.dst ∧ K (st.putO o.dst (.agg cells))
    | none => False)
  | .ar _ e, some z, some xs => (match szT P e with
    | some n => (match fillA (fun i => some (i * n, n)) (z.cells.toList.map AV.v) xs with
      | some cells => dstOk st o.dst ∧ K (st.putO o.dst (.agg cells))
      | none => False)
    | none => False)
  | _, _, _ => False

def litK (P : Program) (o : Oper) (t : TypeId) (len : Nat) (parts : Array (Nat × Operand)) (K : St → Prop) (st : St) : Prop :=
  match kindT P t with
  | .sl e => (match szT P e, zeroT P e, evs st (parts.map (·.2)) with
    | some sz, some z, some xs => z.cells.size = sz ∧ 0 < sz ∧ parts.toList.map (·.1) = List.range len ∧ len * sz ≤ 16777216 ∧ (∀ x ∈ xs, x.cells.length = sz) ∧ dstOk st o.dst ∧
      if len = 0 then (∀ b : Nat, K ((st.setHp (st.hp.setSp ((e, sz, .slice (some ⟨b, 0, none⟩) 0 0) :: st.hp.sp))).putO o.dst (.lst sz (.slice (some ⟨b, 0, none⟩) 0 0) xs)))
      else ∀ hd', K ((st.setHp (st.hp.setSp ((e, sz, hd') :: st.hp.sp))).putO o.dst (.lst sz hd' xs))
    | _, _, _ => False)
  | _ => False

def mapUpdK (P : Program) (o : Oper) (t : TypeId) (mo ko xo : Operand) (K : St → Prop) (st : St) : Prop :=
  o.dst = none ∧ match kindT P t, st.ev mo, st.ev ko, st.ev xo with
  | .mp kt _, some (.v (.map (some b))), some (.v k), some x => (match st.hp.mp b with
    | some es => keyOk (kindT P kt) k = true ∧ (∀ p ∈ es, keyOk (kindT P kt) p.1 = true) ∧ K (st.setHp (st.hp.setMp b (mset k x es)))
    | none => False)
  | _, _, _, _ => False

def boxK (mu : List Nat) (o : Oper) (t : TypeId) (x : Operand) (K : St → Prop) (st : St) : Prop :=
  withAV (st.ev x) fun y => dstOk st o.dst ∧ if mu.contains (o.dst.getD 0) = true then (∀ b, Fresh st.hp b → K ((st.setHp (st.hp.setBlk b t y.cells)).putO o.dst (.v (.pointer (some ⟨b, 0, none⟩)))))
    else ∀ p, K (st.putO o.dst (.ref p y.cells))

def allocK (P : Program) (o : Oper) (t : TypeId) (K : St → Prop) (st : St) : Prop :=
  match zeroT P t with
  | some z => dstOk st o.dst ∧ ∀ b, Fresh st.hp b → K ((st.setHp (st.hp.setBlk b t (z.cells.toList.map AV.v))).putO o.dst (.v (.pointer (some ⟨b, 0, none⟩))))
  | none => False

def ccallK (P : Program) (o : Oper) (c : Call) (K : St → Prop) (st : St) : Prop :=
  match c.callee with
  | .value f => aval P o f c.args K st
  | .builtin .len => pop P st (.call c) fun x => dstOk st o.dst ∧ K (st.putO o.dst x)
  | _ => aopX P o K st ⟨⟩ ⟨⟩

def aopK (P : Program) (mu : List Nat) (o : Oper) (K : St → Prop) (st : St) : Prop :=
  match o.op with
  | .alloc t => allocK P o t K st
  | .box t x => boxK mu o t x K st
  | .store t p x => storeK P mu o t p x K st
  | .build t parts => buildK P o t parts K st
  | .buildSlice t len parts => litK P o t len parts K st
  | .makeMap t none => (dstOk st o.dst ∧ ∀ b, Fresh st.hp b → K ((st.setHp (st.hp.setMp b [])).putO o.dst (.v (.map (some b)))))
  | .mapUpdate t m k x => mapUpdK P o t m k x K st
  | .call c => ccallK P o c K st
  | .move x => withAV (st.ev x) fun x => dstOk st o.dst ∧ K (st.putO o.dst x)
  | .assign x => withAV (st.ev x) fun x => dstOk st o.dst ∧ K (st.putO o.dst x)
  | .slice t x l h m => sliceK P o t x l h m K st
  | .makeSlice t n c => mkSlK P o t n c K st
  | .typeAssert _ _ _ _ => aopX P o K st ⟨⟩ ⟨⟩
  | op => pop2 P st op fun x => dstOk st o.dst ∧ K (st.putO o.dst x)

theorem aopK_sound {mu : List Nat} {o : Oper} {K : St → Prop} {st : St} (h : aopK P mu o K st) : AOp P o K st := by
  unfold aopK at h
  split at h
  · rename_i t ho
    unfold allocK at h
    split at h
    · rename_i z hz
      exact aop_alloc ho hz h.1 h.2
    · exact h.elim
  · rename_i t x ho
    obtain ⟨y, hy, hd, h⟩ := withAV_elim h
    split at h
    · exact aop_box ho hy hd h
    · exact aop_boxP ho hy hd h
  · rename_i t p x ho
    obtain ⟨hdst, h⟩ := h
    split at h
    · rename_i b off y hp hx
      split at h
      · rename_i T cs n hb hn
        obtain ⟨rfl, hone, h⟩ := h
        split at h
        · rename_i pn
          split at h
          · exact aop_store ho hdst hp hx hb hn hone h.1 h.2
          · split at h
            · rename_i hc
              simp only [Bool.and_eq_true, beq_iff_eq] at hc
              obtain ⟨rfl, hfit⟩ := hc
              exact aop_storeP ho hdst hp hx hb hn hone hfit h
            · exact aop_store ho hdst hp hx hb hn hone h.1 h.2
        · exact aop_store ho hdst hp hx hb hn hone h.1 h.2
      · exact h.elim
    · exact h.elim
  · rename_i t parts ho
    unfold buildK at h
    split at h
    · rename_i fs z xs hk hz hxs
      obtain ⟨hsz, h⟩ := h
      split at h
      · rename_i cells hf
        exact aop_build ho hk hz hxs hsz hf h.1 h.2
      · exact h.elim
    · rename_i len e z xs hk hz hxs
      split at h
      · rename_i n hn
        split at h
        · rename_i cells hf
          exact aop_buildA ho hk hz hn hxs hf h.1 h.2
        · exact h.elim
      · exact h.elim
    · exact h.elim
  · rename_i t len parts ho
    unfold litK at h
    split at h
    · rename_i e hk
      split at h
      · rename_i sz z xs hsz hz hxs
        obtain ⟨h1, h2, h3, h4, h5, h6, h7⟩ := h
        refine aop_lit ho hk hsz hz h1 h2 hxs h3 h4 h5 h6 fun b => ?_
        split at h7
        · rename_i h0; subst h0; exact h7 b
        · exact h7 _
      · exact h.elim
    · exact h.elim
  · rename_i t ho; exact aop_makeMap ho h.1 h.2
  · rename_i t m k x ho
    obtain ⟨hdst, h⟩ := h
    split at h
    · rename_i kt et b k' x' hk hm hk' hx
      split at h
      · rename_i es hes
        exact aop_mapUpdate ho hdst hk hm hk' hx hes h.1 h.2.1 h.2.2
      · exact h.elim
    · exact h.elim
  · rename_i c ho
    unfold ccallK at h
    split at h
    · rename_i f hc
      obtain ⟨callee, args, ts⟩ := c
      simp only at hc; subst hc
      exact aop_call ho h
    · have h' : pop P st o.op fun x => dstOk st o.dst ∧ K (st.putO o.dst x) := by rw [ho]; exact h
      exact aop_pure h'
    · exact h
  · rename_i x ho
    have h' : pop P st o.op fun x => dstOk st o.dst ∧ K (st.putO o.dst x) := by rw [ho]; exact h
    exact aop_pure h'
  · rename_i x ho
    have h' : pop P st o.op fun x => dstOk st o.dst ∧ K (st.putO o.dst x) := by rw [ho]; exact h
    exact aop_pure h'
  · rename_i t x l hi m ho; exact aop_slice ho h
  · rename_i t n c ho; exact aop_mkSl ho h
  · exact h
  · exact aop_pure2 h

/-- The operations of a region; 'ds' are their destinations. -/
def aopsK (P : Program) (mu : List Nat) (ds : List (Option Nat)) (K : St → Prop) : List Oper → St → Prop
  | [], st => K st
  | o :: rest, st => match o.guard with
    | none => aopK P mu o (aopsK P mu ds K rest) st
    | some (j, want) => (match (ds[j]?).bind id with
      | some d => (match st.sl d with
        | some (.v (.bool b)) => brK (b == want) (aopK P mu o (aopsK P mu ds K rest) st) (dstOk st o.dst ∧ aopsK P mu ds K rest (st.putO o.dst (.v undef))) ⟨⟩
        | some (.v (.tuple _)) => dstOk st o.dst ∧ aopsK P mu ds K rest (st.putO o.dst (.v undef))
        | _ => False)
      | none => False)


theorem aopsK_sound {mu : List Nat} {ops : Array Oper} {K : St → Prop} : ∀ (l : List Oper) (st : St), aopsK P mu (ops.toList.map (·.dst)) K l st → AList P ops l K st
  | [], st, h => al_nil h
  | o :: rest, st, h => by
    have dstj : ∀ (j d : Nat), (((ops.toList.map (fun o : Oper => o.dst))[j]?).bind id) = some d → (ops[j]?).bind (fun o : Oper => o.dst) = some d := by
      intro j d hd
      rw [List.getElem?_map] at hd
      cases hj : ops[j]? with
      | none => simp [hj] at hd
      | some o' => simp [hj] at hd ⊢; exact hd
    have mono : ∀ st, aopK P mu o (aopsK P mu (ops.toList.map (·.dst)) K rest) st → AOp P o (fun st => AList P ops rest K st) st := by
      intro st h F a w hr K' Q hK'
      exact aopK_sound h F a w hr K' Q (fun a' w' ⟨st', k, r⟩ => hK' a' w' ⟨st', aopsK_sound rest st' k, r⟩)
    unfold aopsK at h
    split at h
    · rename_i hg
      exact al_cons hg (mono st h)
    · rename_i j want hg
      split at h
      · rename_i d hd
        split at h
        · rename_i b hb
          by_cases hbw : b = want
          · subst hbw
            have h' : aopK P mu o (aopsK P mu (ops.toList.map (·.dst)) K rest) st := by simpa [brK] using h
            exact al_run hg (dstj j d hd) hb (mono st h')
          · have hne : (b == want) = false := by simpa using hbw
            rw [hne, brK_false] at h
            exact al_skip hg (dstj j d hd) hb (by simpa using hbw) h.1 (aopsK_sound rest _ h.2)
        · rename_i vs hb
          exact al_skip hg (dstj j d hd) hb (by simp) h.1 (aopsK_sound rest _ h.2)
        · exact h.elim
      · exact h.elim

/-- Code. -/
def awp (P : Program) (mu : List Nat) : Code → (Exit → St → Prop) → St → Prop
  | .skip, Q, st => Q .normal st
  | .seq x y, Q, st => awp P mu x (thenA (awp P mu y Q) Q) st
  | .cond c x y, Q, st => match st.ev c with
    | some (.v (.bool t)) => brK t (awp P mu x Q st) (awp P mu y Q st) ⟨⟩
    | _ => False
  | .block id c, Q, st => awp P mu c (inBlk id Q) st
  | .exit id, Q, st => Q (.exit id) st
  | .ret, Q, st => Q .ret st
  | .region id ops draw, Q, st => match draw with
    | false => aopsK P mu (ops.toList.map (·.dst)) (Q .normal) ops.toList st
    | true => awpX P (.region id ops true) Q st ⟨⟩ ⟨⟩
  | c, Q, st => awpX P c Q st ⟨⟩ ⟨⟩


theorem awp_sound {mu : List Nat} : ∀ (c : Code) (Q : Exit → St → Prop) (st : St), awp P mu c Q st → AWp P c Q st
  | .skip, Q, st, h => aw_skip h
  | .seq x y, Q, st, h => by
    refine aw_seq ((awp_sound x _ st h).mono ?_)
    intro e st' hq
    cases e with
    | normal => exact awp_sound y Q st' hq
    | _ => exact hq
  | .cond c x y, Q, st, h => by
    simp only [awp] at h
    split at h
    · rename_i t ht
      refine aw_cond ht ?_
      cases t
      · exact awp_sound y Q st h
      · exact awp_sound x Q st h
    · exact h.elim
  | .block id c, Q, st, h => aw_block (awp_sound c _ st h)
  | .exit id, Q, st, h => aw_exit h
  | .ret, Q, st, h => aw_ret h
  | .region id ops false, Q, st, h => by
    have := aw_region (id := id) (Q := Q) (aopsK_sound (ops := ops) ops.toList st h)
    simpa using this
  | .region id ops true, Q, st, h => h
  | .loop c, Q, st, h => h
  | .rangeFunc a b c d, Q, st, h => h
  | .scope c, Q, st, h => h
  | .label l, Q, st, h => h
  | .goto l, Q, st, h => h
  | .refuse s, Q, st, h => h
end
end Go.AL
