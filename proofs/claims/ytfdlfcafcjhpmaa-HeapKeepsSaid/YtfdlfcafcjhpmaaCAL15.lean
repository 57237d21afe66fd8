/- Regions that draw their order: what only looks is taken first, of the rest every order is walked. -/
import Derived.Test.YtfdlfcafcjhpmaaCAL14
import Derived.OrdersHeld
set_option linter.unusedVariables false
set_option linter.unusedSimpArgs false
namespace Go.AL
section
variable {P : Program}

def SD (F : Fr) (fz : Hp → Prop) (w : World) : Prop := ∃ hp m, F.m.le m ∧ fz hp ∧ HpOk F.base hp m w ∧ F.base ≤ w.heap.size

theorem wpAnyH_mono {md : Region.Mode} {ops : Array Oper} {Q : Exit → Act → World → Prop} {S S' : World → Prop} (h : ∀ w, S w → S' w) :
    ∀ (fuel : Nat) (listed : Array Bool) (a : Act) (w : World), wpAnyH P md ops Q S fuel listed a w → wpAnyH P md ops Q S' fuel listed a w
  | 0, _, _, _, k => k
  | fuel + 1, _, _, _, k => ⟨k.1, fun i hi => wpOp_mono (fun a' w' h' => ⟨h _ h'.1, wpAnyH_mono h fuel _ a' w' h'.2⟩) (k.2 i hi)⟩

def AAny (P : Program) (ops : Array Oper) (K : St → Prop) (fz : Hp → Prop) (fuel : Nat) (listed : Array Bool) (st : St) : Prop :=
  ∀ F a w, Rel F st a w → fz st.hp → ∀ Q : Exit → Act → World → Prop, (∀ a' w', (∃ st', K st' ∧ Rel F st' a' w') → Q .normal a' w') → (∀ c a w, ¬ Q (.panic c) a w) →
    wpAnyH P .any ops Q (SD F fz) fuel listed a w

theorem Rel.atM {F : Fr} {st : St} {a : Act} {w : World} {m : Mem} (hr : Rel F st a w) (hm : RelM F st a w m) : Rel ⟨m, F.w, F.base⟩ st a w :=
  ⟨⟨hr.lo.os, hr.lo.tape, hr.lo.output, hr.lo.size, hr.lo.low, hr.lo.bs⟩, hr.df, hr.n, m, Mem.le_refl m, hm.hp, hm.sl⟩

theorem Rel.ofM {F : Fr} {st : St} {a : Act} {w : World} {m : Mem} (hle : F.m.le m) (hr : Rel ⟨m, F.w, F.base⟩ st a w) : Rel F st a w := by
  obtain ⟨m', hm'⟩ := hr.ex
  exact ⟨⟨hr.lo.os, hr.lo.tape, hr.lo.output, hr.lo.size, hr.lo.low, hr.lo.bs⟩, hr.df, hr.n, m', Mem.le_trans hle hm'.le, hm'.hp, hm'.sl⟩

theorem Rel.sd {F : Fr} {st : St} {a : Act} {w : World} {fz : Hp → Prop} (hr : Rel F st a w) (h : fz st.hp) : SD F fz w := by
  obtain ⟨m, hm⟩ := hr.ex
  exact ⟨st.hp, m, hm.le, h, hm.hp, hr.lo.bs⟩

/-- Whether an operation is carried out, as the slots say. -/
def wants (ops : Array Oper) (o : Oper) (st : St) : Option Bool :=
  match o.guard with
  | none => some true
  | some (j, want) => match ((ops[j]?).bind (·.dst)).bind st.sl with
    | some (.v (.bool b)) => some (b == want)
    | some (.v (.tuple _)) => some false
    | _ => none

theorem wants_sound {F : Fr} {st : St} {a : Act} {w : World} (hr : Rel F st a w) {ops : Array Oper} {o : Oper} {r : Bool} (h : wants ops o st = some r) : Region.wanted o (yielded ops a.tmps) = r := by
  unfold wants at h
  split at h
  · rename_i hg; obtain rfl := Option.some.inj h; simp [Region.wanted, hg]
  · rename_i j want hg
    cases hj : (ops[j]?).bind (·.dst) with
    | none => simp [hj] at h
    | some d =>
      simp only [hj, Option.bind_some] at h
      split at h
      · rename_i b hb
        obtain rfl := Option.some.inj h
        simp only [Region.wanted, hg, yielded_eq hr hj hb, boolV]
        cases b <;> cases want <;> rfl
      · rename_i vs hb
        obtain rfl := Option.some.inj h
        simp only [Region.wanted, hg, yielded_eq hr hj hb, boolV]
        cases want <;> rfl
      · cases h

theorem aany_take {ops : Array Oper} {K : St → Prop} {fz : Hp → Prop} {i : Nat} {oi : Oper} {x : AV} {fuel : Nat} {listed : Array Bool} {st : St} (hi : ops[i]? = some oi)
    (hs : Region.noSelect ops = true) (hf : Region.free .any ops listed i = true) (hr : (Region.ready .any ops listed).contains i = true) (hd : dstOk st oi.dst)
    (hy : (wants ops oi st = some true ∧ Yields P st oi.op x ∧ ∀ hp, fz hp → pop2 P (st.setHp hp) oi.op (fun y => y = x)) ∨ (wants ops oi st = some false ∧ x = .v undef))
    (next : AAny P ops K fz fuel (listed.setIfInBounds i true) (st.putO oi.dst x)) : AAny P ops K fz (fuel + 1) listed st := by
  intro F a w hrel hfz Q hQ hP
  obtain ⟨m, hm⟩ := hrel.ex
  have hrel' := hrel.atM hm
  have hx : x.ok m := by
    rcases hy with ⟨_, hy, _⟩ | ⟨_, rfl⟩
    · exact (hy F a w m hrel hm).2
    · trivial
  have h1 : YieldsIf P ops (SD ⟨m, F.w, F.base⟩ fz) oi x.val a := by
    rcases hy with ⟨hw, _, hy⟩ | ⟨hw, rfl⟩
    · refine .inl ⟨wants_sound hrel hw, ?_⟩
      rintro w' ⟨hp', m', hle, hfz', hhp, hbs⟩
      have hle' : m.le m' := hle
      have hr2 : Rel ⟨m', w', F.base⟩ (st.setHp hp') a w' := ⟨Lo.self _ _ _ hbs, hrel.df, hrel.n, m', Mem.le_refl _, hhp, fun i y hy => ⟨(hm.sl i y hy).1, AV.ok_mono hle' y (hm.sl i y hy).2⟩⟩
      have hm2 : RelM ⟨m', w', F.base⟩ (st.setHp hp') a w' m' := ⟨Mem.le_refl _, hhp, fun i y hy => ⟨(hm.sl i y hy).1, AV.ok_mono hle' y (hm.sl i y hy).2⟩⟩
      obtain ⟨y, hy1, hy2⟩ := pop2_sound (hy hp' hfz')
      subst hy1
      exact (hy2 _ a w' m' hr2 hm2).1 oi rfl
    · exact .inr ⟨wants_sound hrel hw, rfl⟩
  have h2 := next ⟨m, F.w, F.base⟩ (a.put oi.dst x.val) w (hrel'.putM ⟨Mem.le_refl m, hm.hp, hm.sl⟩ hd hx) (by rw [St.putO_hp]; exact hfz) Q (fun a' w' ⟨st', k, r⟩ => hQ a' w' ⟨st', k, r.ofM hm.le⟩) hP
  refine wpAnyH_mono (fun w' h => ?_) _ _ _ _ (wpAnyH_take hi hs hf hr (fun c a w h => absurd h (hP c _ w)) h1 (hrel'.sd hfz) h2)
  obtain ⟨hp', m', hle, r⟩ := h
  exact ⟨hp', m', Mem.le_trans hm.le hle, r⟩

/-- One of those that may come up. -/
def AStep (P : Program) (ops : Array Oper) (K : St → Prop) (fz : Hp → Prop) (fuel : Nat) (listed : Array Bool) (st : St) (i : Nat) : Prop :=
  ∀ F a w, Rel F st a w → fz st.hp → ∀ Q : Exit → Act → World → Prop, (∀ a' w', (∃ st', K st' ∧ Rel F st' a' w') → Q .normal a' w') → (∀ c a w, ¬ Q (.panic c) a w) →
    wpOp P ops Q i (fun a' w' => SD F fz w' ∧ wpAnyH P .any ops Q (SD F fz) fuel (listed.setIfInBounds i true) a' w') a w

theorem aany_all {ops : Array Oper} {K : St → Prop} {fz : Hp → Prop} {fuel : Nat} {listed : Array Bool} {st : St} {rs : List Nat} (hr : Region.ready .any ops listed = rs) (hne : rs ≠ [])
    (h : ∀ i ∈ rs, AStep P ops K fz fuel listed st i) : AAny P ops K fz (fuel + 1) listed st :=
  fun F a w hrel hfz Q hQ hP => wpAnyH_all hr hne fun i hi => h i hi F a w hrel hfz Q hQ hP

theorem aany_done {ops : Array Oper} {K : St → Prop} {fz : Hp → Prop} {listed : Array Bool} {st : St} {fuel : Nat} (hr : Region.ready .any ops listed = []) (h : K st) : AAny P ops K fz fuel listed st :=
  fun F a w hrel hfz Q hQ hP => wpAnyH_done hr (hQ a w ⟨st, h, hrel⟩) fuel

theorem astep_run {ops : Array Oper} {K : St → Prop} {fz : Hp → Prop} {fuel : Nat} {listed : Array Bool} {st : St} {i : Nat} {oi : Oper} (hi : ops[i]? = some oi) (hw : wants ops oi st = some true)
    (h : AOp P oi (fun st' => fz st'.hp ∧ AAny P ops K fz fuel (listed.setIfInBounds i true) st') st) : AStep P ops K fz fuel listed st i := by
  intro F a w hrel hfz Q hQ hP
  unfold wpOp
  simp only [hi, wants_sound hrel hw, if_true]
  refine .inl (h F a w hrel _ Q ?_)
  rintro a' w' ⟨st', ⟨hf, k⟩, r⟩
  exact ⟨r.sd hf, k F a' w' r hf Q hQ hP⟩

theorem astep_skip {ops : Array Oper} {K : St → Prop} {fz : Hp → Prop} {fuel : Nat} {listed : Array Bool} {st : St} {i : Nat} {oi : Oper} (hi : ops[i]? = some oi) (hw : wants ops oi st = some false) (hd : dstOk st oi.dst)
    (h : AAny P ops K fz fuel (listed.setIfInBounds i true) (st.putO oi.dst (.v undef))) : AStep P ops K fz fuel listed st i := by
  intro F a w hrel hfz Q hQ hP
  obtain ⟨m, hm⟩ := hrel.ex
  unfold wpOp
  simp only [hi, wants_sound hrel hw, Bool.false_eq_true, if_false]
  have r := hrel.putM hm hd (x := .v undef) trivial
  exact ⟨r.sd (by rw [St.putO_hp]; exact hfz), h F _ w r (by rw [St.putO_hp]; exact hfz) Q hQ hP⟩

theorem Rel.drawn {F : Fr} {st : St} {a : Act} {w : World} (hr : Rel F st a w) (n : Nat) : Rel F st a { w with drawn := n } := by
  obtain ⟨m, hm⟩ := hr.ex
  exact ⟨hr.lo.grow rfl rfl rfl (Nat.le_refl _) (fun _ _ => rfl), hr.df, hr.n, m, hm.le, hm.hp.world (fun _ _ => rfl), hm.sl⟩

theorem aw_drawn {id : Nat} {ops : Array Oper} {Q : Exit → St → Prop} {st : St} (fz : Hp → Prop) (hm : P.follows .mixedOrders = true) (hfz : fz st.hp)
    (h : AAny P ops (Q .normal) fz ops.size (Array.replicate ops.size false) st) : AWp P (.region id ops true) Q st := by
  intro F a w hrel
  have : (Code.region id ops true).wp P (fun e a' w' => e = .normal ∧ ∃ st', Q .normal st' ∧ Rel F st' a' w') a w :=
    wp_region_held (S := SD F fz) hm (h F a _ (hrel.drawn _) hfz _ (fun a' w' hk => ⟨rfl, hk⟩) (fun c a w hk => by cases hk.1))
  exact Code.wp_mono (fun e a' w' ⟨he, hk⟩ => by subst he; exact hk) this

/-! ### A plan: which is taken first, where the orders part -/
inductive Plan where
  | done
  | take (i : Nat) (p : Plan)
  | br (i : Nat) (p q : Plan)
  | stop

def Plan.idx : Plan → List Nat
  | .br i _ q => i :: q.idx
  | _ => []

def planB (ops : Array Oper) : Plan → Bool → Nat → Array Bool → Bool
  | .done, false, _, l => (Region.ready .any ops l).isEmpty
  | .take i p, false, f + 1, l => Region.free .any ops l i && (Region.ready .any ops l).contains i && planB ops p false f (l.setIfInBounds i true)
  | .br i p q, false, f + 1, l => (Region.ready .any ops l == (i :: q.idx)) && planB ops p false f (l.setIfInBounds i true) && planB ops q true f l
  | .br i p q, true, f, l => planB ops p false f (l.setIfInBounds i true) && planB ops q true f l
  | .stop, true, _, _ => true
  | _, _, _, _ => false

/-- What is taken first. -/
def takeK (P : Program) (fz : Hp → Prop) (o : Oper) (w : Option Bool) (K : St → Prop) (st : St) : Prop :=
  dstOk st o.dst ∧ match w with
  | some b => brK b (pop2 P st o.op fun x => (∀ hp, fz hp → pop2 P (st.setHp hp) o.op (fun y => y = x)) ∧ K (st.putO o.dst x)) (K (st.putO o.dst (.v undef))) ⟨⟩
  | none => False
def stepK (P : Program) (mu : List Nat) (o : Oper) (w : Option Bool) (K : St → Prop) (st : St) : Prop :=
  match w with
  | some b => brK b (aopK P mu o K st) (dstOk st o.dst ∧ K (st.putO o.dst (.v undef))) ⟨⟩
  | none => False
def nthO (l : List Oper) (i : Nat) (K : Oper → Prop) : Prop := match l[i]? with | some o => K o | none => False

def drawK (P : Program) (mu : List Nat) (fz : Hp → Prop) (l : List Oper) : Plan → (St → Prop) → St → Prop
  | .done, K, st => K st
  | .take i p, K, st => nthO l i fun o => takeK P fz o (wants l.toArray o st) (drawK P mu fz l p K) st
  | .br i p q, K, st => (nthO l i fun o => stepK P mu o (wants l.toArray o st) (fun st' => fz st'.hp ∧ drawK P mu fz l p K st') st) ∧ drawK P mu fz l q K st
  | .stop, K, st => True

theorem nthO_elim {l : List Oper} {i : Nat} {K : Oper → Prop} (h : nthO l i K) : ∃ o, l.toArray[i]? = some o ∧ K o := by
  unfold nthO at h
  split at h
  · rename_i o ho; exact ⟨o, by simpa using ho, h⟩
  · exact h.elim

theorem drawK_sound {mu : List Nat} {fz : Hp → Prop} {l : List Oper} (hs : Region.noSelect l.toArray = true) {K : St → Prop} : ∀ (p : Plan) (f : Nat) (listed : Array Bool) (st : St),
    (planB l.toArray p false f listed = true → drawK P mu fz l p K st → AAny P l.toArray K fz f listed st) ∧
    (planB l.toArray p true f listed = true → drawK P mu fz l p K st → ∀ i ∈ p.idx, AStep P l.toArray K fz f listed st i)
  | .done, f, listed, st => ⟨fun hp h => aany_done (by simpa [planB] using hp) h, fun hp h => by simp [planB] at hp⟩
  | .stop, f, listed, st => ⟨fun hp h => by simp [planB] at hp, fun hp h i hi => by simp [Plan.idx] at hi⟩
  | .take i p, f, listed, st => by
    refine ⟨fun hp h => ?_, fun hp h => by simp [planB] at hp⟩
    cases f with
    | zero => simp [planB] at hp
    | succ f =>
      simp only [planB, Bool.and_eq_true] at hp
      obtain ⟨⟨h1, h2⟩, h3⟩ := hp
      obtain ⟨o, ho, hd, hk⟩ := nthO_elim h
      split at hk
      · rename_i b hw
        cases b with
        | true =>
          rw [brK_true] at hk
          obtain ⟨x, ⟨hx, hk⟩, hy⟩ := pop2_sound hk
          exact aany_take ho hs h1 h2 hd (.inl ⟨hw, hy, hx⟩) ((drawK_sound hs p f _ _).1 h3 hk)
        | false =>
          rw [brK_false] at hk
          exact aany_take ho hs h1 h2 hd (.inr ⟨hw, rfl⟩) ((drawK_sound hs p f _ _).1 h3 hk)
      · exact hk.elim
  | .br i p q, f, listed, st => by
    have step : ∀ f, planB l.toArray p false f (listed.setIfInBounds i true) = true → planB l.toArray q true f listed = true → drawK P mu fz l (.br i p q) K st →
        ∀ j ∈ (Plan.br i p q).idx, AStep P l.toArray K fz f listed st j := by
      intro f h1 h2 h j hj
      obtain ⟨ha, hb⟩ := h
      rcases List.mem_cons.1 hj with rfl | hj
      · obtain ⟨o, ho, hk⟩ := nthO_elim ha
        unfold stepK at hk
        split at hk
        · rename_i b hw
          cases b with
          | true =>
            rw [brK_true] at hk
            refine astep_run ho hw ?_
            intro F a w hr K' Q hK'
            exact aopK_sound hk F a w hr K' Q (fun a' w' ⟨st', ⟨hf, k⟩, r⟩ => hK' a' w' ⟨st', ⟨hf, (drawK_sound hs p f _ _).1 h1 k⟩, r⟩)
          | false =>
            rw [brK_false] at hk
            exact astep_skip ho hw hk.1 ((drawK_sound hs p f _ _).1 h1 hk.2.2)
        · exact hk.elim
      · exact (drawK_sound hs q f _ _).2 h2 hb j hj
    refine ⟨fun hp h => ?_, fun hp h => ?_⟩
    · cases f with
      | zero => simp [planB] at hp
      | succ f =>
        simp only [planB, Bool.and_eq_true, beq_iff_eq] at hp
        obtain ⟨⟨h1, h2⟩, h3⟩ := hp
        exact aany_all h1 (by simp) (step f h2 h3 h)
    · simp only [planB, Bool.and_eq_true] at hp
      exact step f hp.1 hp.2 h

theorem draw_by {mu : List Nat} {id : Nat} {l : List Oper} {Q : Exit → St → Prop} {st : St} {fc : Fix (Code.region id l.toArray true)} {fq : Fix Q} (fz : Hp → Prop) (p : Plan) (hm : P.follows .mixedOrders = true) (hfz : fz st.hp)
    (hs : Region.noSelect l.toArray = true) (hp : planB l.toArray p false l.toArray.size (Array.replicate l.toArray.size false) = true) (h : drawK P mu fz l p (Q .normal) st) : awpX P (.region id l.toArray true) Q st fc fq :=
  aw_drawn fz hm hfz ((drawK_sound hs p _ _ _).1 hp h)

/-! ### As equations -/
variable {mu : List Nat} {fz : Hp → Prop} {K : St → Prop} {st : St}
@[go_sem ↓] theorem drawK_done (l : List Oper) : drawK P mu fz l .done K st = K st := rfl
@[go_sem ↓] theorem drawK_stop (l : List Oper) : drawK P mu fz l .stop K st = True := rfl
@[go_sem ↓] theorem drawK_take (l : List Oper) (i : Nat) (p : Plan) : drawK P mu fz l (.take i p) K st = nthO l i fun o => takeK P fz o (wants l.toArray o st) (drawK P mu fz l p K) st := rfl
@[go_sem ↓] theorem drawK_br (l : List Oper) (i : Nat) (p q : Plan) : drawK P mu fz l (.br i p q) K st = ((nthO l i fun o => stepK P mu o (wants l.toArray o st) (fun st' => fz st'.hp ∧ drawK P mu fz l p K st') st) ∧ drawK P mu fz l q K st) := rfl
@[go_sem ↓] theorem nthO_zero (o : Oper) (l : List Oper) (K : Oper → Prop) : nthO (o :: l) 0 K = K o := rfl
@[congr] theorem takeK_congr {o : Oper} {w w' : Option Bool} {st' : St} (h : w = w') (h' : st = st') : takeK P fz o w K st = takeK P fz o w' K st' := by rw [h, h']
@[congr] theorem stepK_congr {o : Oper} {w w' : Option Bool} {st' : St} (h : w = w') (h' : st = st') : stepK P mu o w K st = stepK P mu o w' K st' := by rw [h, h']
@[go_sem] theorem takeK_some (d : Option Nat) (op : Op) (ty : TypeId) (pos : String) (aft : Array Edge) (g : Option (Nat × Bool)) (b : Bool) : takeK P fz ⟨d, op, ty, pos, aft, g⟩ (some b) K st =
    (dstOk st d ∧ brK b (pop2 P st op fun x => (∀ hp, fz hp → pop2 P (st.setHp hp) op (fun y => y = x)) ∧ K (st.putO d x)) (K (st.putO d (.v undef))) ⟨⟩) := rfl
@[go_sem] theorem stepK_some (o : Oper) (b : Bool) : stepK P mu o (some b) K st = brK b (aopK P mu o K st) (dstOk st o.dst ∧ K (st.putO o.dst (.v undef))) ⟨⟩ := rfl
def slotAt (st : St) : List Oper → Nat → Option AV
  | [], _ => none
  | o :: _, 0 => o.dst.bind st.sl
  | _ :: l, j + 1 => slotAt st l j
def wantV (x : Option AV) (want : Bool) : Option Bool := match x with
  | some (.v (.bool b)) => some (b == want)
  | some (.v (.tuple _)) => some false
  | _ => none
theorem slotAt_eq (st : St) : ∀ (l : List Oper) (j : Nat), (((l.toArray[j]?).bind (·.dst)).bind st.sl) = slotAt st l j
  | [], j => by simp [slotAt]
  | o :: l, 0 => by simp [slotAt]
  | o :: l, j + 1 => by rw [slotAt, ← slotAt_eq st l j]; simp
@[go_sem ↓] theorem wants_none (ops : Array Oper) (d : Option Nat) (op : Op) (ty : TypeId) (pos : String) (aft : Array Edge) : wants ops ⟨d, op, ty, pos, aft, none⟩ st = some true := rfl
@[go_sem ↓] theorem wants_some (l : List Oper) (d : Option Nat) (op : Op) (ty : TypeId) (pos : String) (aft : Array Edge) (j : Nat) (want : Bool) : wants l.toArray ⟨d, op, ty, pos, aft, some (j, want)⟩ st = wantV (slotAt st l j) want := by
  simp only [wants, slotAt_eq, wantV]
@[go_sem] theorem wantV_bool (b want : Bool) : wantV (some (.v (.bool b))) want = some (b == want) := rfl
@[go_sem] theorem wantV_undef (want : Bool) : wantV (some (.v undef)) want = some false := rfl
@[go_sem] theorem slotAt_zero (d : Nat) (op : Op) (ty : TypeId) (pos : String) (aft : Array Edge) (g : Option (Nat × Bool)) (l : List Oper) : slotAt st (⟨some d, op, ty, pos, aft, g⟩ :: l) 0 = st.sl d := rfl
@[go_sem] theorem slotAt_succ (o : Oper) (l : List Oper) (j : Nat) : slotAt st (o :: l) (j + 1) = slotAt st l j := rfl
section
variable (K : AV → Prop)
@[go_sem ↓] theorem pop2_move (x : Operand) : pop2 P st (.move x) K = withAV (st.ev x) K := rfl
@[go_sem ↓] theorem pop2_assign (x : Operand) : pop2 P st (.assign x) K = withAV (st.ev x) K := rfl
@[go_sem ↓] theorem pop2_pick (c a b : Operand) : pop2 P st (.pick c a b) K = withAV (st.ev c) fun c => pickK c (st.ev a) (st.ev b) K := rfl
@[go_sem ↓] theorem pop2_bin (op : BinOp) (t t' : TypeId) (x y : Operand) : pop2 P st (.binOp op t x y t') K = withAV (st.ev x) fun a => withAV (st.ev y) fun b => binK P op t a b K := rfl
@[go_sem ↓] theorem pop2_un (op : UnOp) (t : TypeId) (x : Operand) : pop2 P st (.unOp op t x) K = withAV (st.ev x) fun a => unK op a K := rfl
@[go_sem ↓] theorem pop2_load (t : TypeId) (x : Operand) : pop2 P st (.load t x) K = withAV (st.ev x) fun a => loadK P st.hp t a K := rfl
@[go_sem ↓] theorem pop2_fieldAddr (s : TypeId) (x : Operand) (f : Nat) : pop2 P st (.fieldAddr s x f) K = withAV (st.ev x) fun a => fieldAddrK P s a f K := rfl
@[go_sem ↓] theorem pop2_indexAddr (t : TypeId) (x i : Operand) : pop2 P st (.indexAddr t x i) K = withAV (st.ev x) fun a => withAV (st.ev i) fun i => indexAddrK P t a i K := rfl
@[go_sem ↓] theorem pop2_index (t : TypeId) (x i : Operand) : pop2 P st (.index t x i) K = withAV (st.ev x) fun a => withAV (st.ev i) fun i => indexK P t a i K := rfl
@[go_sem ↓] theorem pop2_field (s : TypeId) (x : Operand) (f : Nat) : pop2 P st (.field s x f) K = withAV (st.ev x) fun a => fieldK P s a f K := rfl
@[go_sem ↓] theorem pop2_extract (x : Operand) (i : Nat) : pop2 P st (.extract x i) K = withAV (st.ev x) fun a => extractK a i K := rfl
@[go_sem ↓] theorem pop2_convert (s d : TypeId) (x : Operand) : pop2 P st (.convert s d x) K = withAV (st.ev x) fun a => cvtK P s d a K := rfl
@[go_sem ↓] theorem pop2_makeInterface (t : TypeId) (x : Operand) : pop2 P st (.makeInterface t x) K = withAV (st.ev x) fun a => mkIfcK P t a K := rfl
@[go_sem ↓] theorem pop2_makeFunc (f : Fn) (a b : Array Operand) : pop2 P st (.makeFunc f a b) K = mkFnK st f a b K := rfl
@[go_sem ↓] theorem pop2_nilCheck (x : Operand) : pop2 P st (.nilCheck x) K = withAV (st.ev x) fun a => nilCheckK a K := rfl
@[go_sem ↓] theorem pop2_len (x : Operand) (t : TypeId) : pop2 P st (.call { callee := .builtin .len, args := [x].toArray, argTypes := [t].toArray }) K = withAV (st.ev x) fun a => lenK P st.hp t a K := rfl
@[go_sem ↓] theorem pop2_lookup (t : TypeId) (m k : Operand) (ok : Bool) : pop2 P st (.lookup t m k ok) K = withAV (st.ev m) fun a => withAV (st.ev k) fun b => lookupK P st.hp t a b ok K := rfl
end
attribute [go_sem] implies_true
@[go_sem ↓] theorem nthO_succ (o : Oper) (l : List Oper) (i : Nat) (K : Oper → Prop) : nthO (o :: l) (i + 1) K = nthO l i K := rfl
end
end Go.AL
