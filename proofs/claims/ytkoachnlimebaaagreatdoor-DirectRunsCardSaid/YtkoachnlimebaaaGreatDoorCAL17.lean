/- Regions that draw their order: what only looks is taken first, of the rest every order is walked. -/
import Derived.Test.YtkoachnlimebaaaGreatDoorCAL14
import Derived.OrdersHeld
import Derived.Below
set_option linter.unusedVariables false
set_option linter.unusedSimpArgs false
namespace Go.AL
section
variable {P : Program}

def SD (F : Fr) (fz : Hp → Prop) (w : World) : Prop := ∃ hp m, F.m.le m ∧ fz hp ∧ HpOk F.base hp m w ∧ F.base ≤ w.heap.size

theorem wpAnyH_mono {md : Region.Mode} {ops : Array Oper} {Q : Exit → Act → World → Prop} {S S' : World → Prop} (h : ∀ w, S w → S' w) :
    ∀ (fuel : Nat) (listed : Array Bool) (a : Act) (w : World), wpAnyH P md ops Q S fuel listed a w → wpAnyH P md ops Q S' fuel listed a w
  | 0, _, _, _, k => k
  | fuel + 1, _, _, _, k => ⟨k.1, fun i hi => wpOp_mono (fun a' w' h' => ⟨h _ h'.1, wpAnyH_mono h fuel _ a' w' h'.2⟩) (k.2 i hi)⟩

def AAny (P : Program) (ops : Array Oper) (K : St → Prop) (fz : Hp → Prop) (fuel : Nat) (listed : Array Bool) (st : St) : Prop :=
  ∀ F a w, Rel F st a w → fz st.hp → ∀ Q : Exit → Act → World → Prop, (∀ a' w', (∃ st', K st' ∧ Rel F st' a' w') → Q .normal a' w') → (∀ c a w, ¬ Q (.panic c) a w) →
    wpAnyH P .any ops Q (SD F fz) fuel listed a w

theorem Rel.atM {F : Fr} {st : St} {a : Act} {w : World} {m : Mem} (hr : Rel F st a w) (hm : RelM F st a w m) : Rel ⟨m, F.w, F.base⟩ st a w :=
  ⟨⟨hr.lo.os, hr.lo.tape, hr.lo.output, hr.lo.size, hr.lo.low, hr.lo.bs⟩, hr.df, hr.n, m, Mem.le_refl m, hm.hp, hm.sl⟩

theorem Rel.ofM {F : Fr} {st : St} {a : Act} {w : World} {m : Mem} (hle : F.m.le m) (hr : Rel ⟨m, F.w, F.base⟩ st a w) : Rel F st a w := by
  obtain ⟨m', hm'⟩ := hr.ex
  exact ⟨⟨hr.lo.os, hr.lo.tape, hr.lo.output, hr.lo.size, hr.lo.low, hr.lo.bs⟩, hr.df, hr.n, m', Mem.le_trans hle hm'.le, hm'.hp, hm'.sl⟩

theorem Rel.sd {F : Fr} {st : St} {a : Act} {w : World} {fz : Hp → Prop} (hr : Rel F st a w) (h : fz st.hp) : SD F fz w := by
  obtain ⟨m, hm⟩ := hr.ex
  exact ⟨st.hp, m, hm.le, h, hm.hp, hr.lo.bs⟩

/-- Whether an operation is carried out, as the slots say. -/
def wants (ops : Array Oper) (o : Oper) (st : St) : Option Bool :=
  match o.guard with
  | none => some true
  | some (j, want) => match ((ops[j]?).bind (·.dst)).bind st.sl with
    | some (.v (.bool b)) => some (b == want)
    | some (.v (.tuple _)) => some false
    | _ => none

theorem wants_sound {F : Fr} {st : St} {a : Act} {w : World} (hr : Rel F st a w) {ops : Array Oper} {o : Oper} {r : Bool} (h : wants ops o st = some r) : Region.wanted o (yielded ops a.tmps) = r := by
  unfold wants at h
  split at h
  · rename_i hg; obtain rfl := Option.some.inj h; simp [Region.wanted, hg]
  · rename_i j want hg
    cases hj : (ops[j]?).bind (·.dst) with
    | none => simp [hj] at h
    | some d =>
      simp only [hj, Option.bind_some] at h
      split at h
      · rename_i b hb
        obtain rfl := Option.some.inj h
        simp only [Region.wanted, hg, yielded_eq hr hj hb, boolV]
        cases b <;> cases want <;> rfl
      · rename_i vs hb
        obtain rfl := Option.some.inj h
        simp only [Region.wanted, hg, yielded_eq hr hj hb, boolV]
        cases want <;> rfl
      · cases h

theorem aany_take {ops : Array Oper} {K : St → Prop} {fz : Hp → Prop} {i : Nat} {oi : Oper} {x : AV} {fuel : Nat} {listed : Array Bool} {st : St} (hi : ops[i]? = some oi)
    (hs : Region.noSelect ops = true) (hf : Region.free .any ops listed i = true) (hr : (Region.ready .any ops listed).contains i = true) (hd : dstOk st oi.dst)
    (hy : (wants ops oi st = some true ∧ Yields P st oi.op x ∧ ∀ hp, fz hp → pop2 P (st.setHp hp) oi.op (fun y => y = x)) ∨ (wants ops oi st = some false ∧ x = .v undef))
    (next : AAny P ops K fz fuel (listed.setIfInBounds i true) (st.putO oi.dst x)) : AAny P ops K fz (fuel + 1) listed st := by
  intro F a w hrel hfz Q hQ hP
  obtain ⟨m, hm⟩ := hrel.ex
  have hrel' := hrel.atM hm
  have hx : x.ok m := by
    rcases hy with ⟨_, hy, _⟩ | ⟨_, rfl⟩
    · exact (hy F a w m hrel hm).2
    · trivial
  have h1 : YieldsIf P ops (SD ⟨m, F.w, F.base⟩ fz) oi x.val a := by
    rcases hy with ⟨hw, _, hy⟩ | ⟨hw, rfl⟩
    · refine .inl ⟨wants_sound hrel hw, ?_⟩
      rintro w' ⟨hp', m', hle, hfz', hhp, hbs⟩
      have hle' : m.le m' := hle
      have hr2 : Rel ⟨m', w', F.base⟩ (st.setHp hp') a w' := ⟨Lo.self _ _ _ hbs, hrel.df, hrel.n, m', Mem.le_refl _, hhp, fun i y hy => ⟨(hm.sl i y hy).1, AV.ok_mono hle' y (hm.sl i y hy).2⟩⟩
      have hm2 : RelM ⟨m', w', F.base⟩ (st.setHp hp') a w' m' := ⟨Mem.le_refl _, hhp, fun i y hy => ⟨(hm.sl i y hy).1, AV.ok_mono hle' y (hm.sl i y hy).2⟩⟩
      obtain ⟨y, hy1, hy2⟩ := pop2_sound (hy hp' hfz')
      subst hy1
      exact (hy2 _ a w' m' hr2 hm2).1 oi rfl
    · exact .inr ⟨wants_sound hrel hw, rfl⟩
  have h2 := next ⟨m, F.w, F.base⟩ (a.put oi.dst x.val) w (hrel'.putM ⟨Mem.le_refl m, hm.hp, hm.sl⟩ hd hx) (by rw [St.putO_hp]; exact hfz) Q (fun a' w' ⟨st', k, r⟩ => hQ a' w' ⟨st', k, r.ofM hm.le⟩) hP
  refine wpAnyH_mono (fun w' h => ?_) _ _ _ _ (wpAnyH_take hi hs hf hr (fun c a w h => absurd h (hP c _ w)) h1 (hrel'.sd hfz) h2)
  obtain ⟨hp', m', hle, r⟩ := h
  exact ⟨hp', m', Mem.le_trans hm.le hle, r⟩

/-- One of those that may come up. -/
def AStep (P : Program) (ops : Array Oper) (K : St → Prop) (fz : Hp → Prop) (fuel : Nat) (listed : Array Bool) (st : St) (i : Nat) : Prop :=
  ∀ F a w, Rel F st a w → fz st.hp → ∀ Q : Exit → Act → World → Prop, (∀ a' w', (∃ st', K st' ∧ Rel F st' a' w') → Q .normal a' w') → (∀ c a w, ¬ Q (.panic c) a w) →
    wpOp P ops Q i (fun a' w' => SD F fz w' ∧ wpAnyH P .any ops Q (SD F fz) fuel (listed.setIfInBounds i true) a' w') a w

theorem aany_all {ops : Array Oper} {K : St → Prop} {fz : Hp → Prop} {fuel : Nat} {listed : Array Bool} {st : St} {rs : List Nat} (hr : Region.ready .any ops listed = rs) (hne : rs ≠ [])
    (h : ∀ i ∈ rs, AStep P ops K fz fuel listed st i) : AAny P ops K fz (fuel + 1) listed st :=
  fun F a w hrel hfz Q hQ hP => wpAnyH_all hr hne fun i hi => h i hi F a w hrel hfz Q hQ hP

theorem aany_done {ops : Array Oper} {K : St → Prop} {fz : Hp → Prop} {listed : Array Bool} {st : St} {fuel : Nat} (hr : Region.ready .any ops listed = []) (h : K st) : AAny P ops K fz fuel listed st :=
  fun F a w hrel hfz Q hQ hP => wpAnyH_done hr (hQ a w ⟨st, h, hrel⟩) fuel

theorem astep_run {ops : Array Oper} {K : St → Prop} {fz : Hp → Prop} {fuel : Nat} {listed : Array Bool} {st : St} {i : Nat} {oi : Oper} (hi : ops[i]? = some oi) (hw : wants ops oi st = some true)
    (h : AOp P oi (fun st' => fz st'.hp ∧ AAny P ops K fz fuel (listed.setIfInBounds i true) st') st) : AStep P ops K fz fuel listed st i := by
  intro F a w hrel hfz Q hQ hP
  unfold wpOp
  simp only [hi, wants_sound hrel hw, if_true]
  refine .inl (h F a w hrel _ Q ?_)
  rintro a' w' ⟨st', ⟨hf, k⟩, r⟩
  exact ⟨r.sd hf, k F a' w' r hf Q hQ hP⟩

theorem astep_skip {ops : Array Oper} {K : St → Prop} {fz : Hp → Prop} {fuel : Nat} {listed : Array Bool} {st : St} {i : Nat} {oi : Oper} (hi : ops[i]? = some oi) (hw : wants ops oi st = some false) (hd : dstOk st oi.dst)
    (h : AAny P ops K fz fuel (listed.setIfInBounds i true) (st.putO oi.dst (.v undef))) : AStep P ops K fz fuel listed st i := by
  intro F a w hrel hfz Q hQ hP
  obtain ⟨m, hm⟩ := hrel.ex
  unfold wpOp
  simp only [hi, wants_sound hrel hw, Bool.false_eq_true, if_false]
  have r := hrel.putM hm hd (x := .v undef) trivial
  exact ⟨r.sd (by rw [St.putO_hp]; exact hfz), h F _ w r (by rw [St.putO_hp]; exact hfz) Q hQ hP⟩

theorem Rel.drawn {F : Fr} {st : St} {a : Act} {w : World} (hr : Rel F st a w) (n : Nat) : Rel F st a { w with drawn := n } := by
  obtain ⟨m, hm⟩ := hr.ex
  exact ⟨hr.lo.grow rfl rfl rfl (Nat.le_refl _) (fun _ _ => rfl), hr.df, hr.n, m, hm.le, hm.hp.world (fun _ _ => rfl), hm.sl⟩

theorem aw_drawn {id : Nat} {ops : Array Oper} {Q : Exit → St → Prop} {st : St} (fz : Hp → Prop) (hm : P.follows .mixedOrders = true) (hfz : fz st.hp)
    (h : AAny P ops (Q .normal) fz ops.size (Array.replicate ops.size false) st) : AWp P (.region id ops true) Q st := by
  intro F a w hrel
  have : (Code.region id ops true).wp P (fun e a' w' => e = .normal ∧ ∃ st', Q .normal st' ∧ Rel F st' a' w') a w :=
    wp_region_held (S := SD F fz) hm (h F a _ (hrel.drawn _) hfz _ (fun a' w' hk => ⟨rfl, hk⟩) (fun c a w hk => by cases hk.1))
  exact Code.wp_mono (fun e a' w' ⟨he, hk⟩ => by subst he; exact hk) this

/-! ### A plan: which is taken first, where the orders part -/
inductive Plan where
  | done
  | take (i : Nat) (p : Plan)
  | br (i : Nat) (p q : Plan)
  | stop

def Plan.idx : Plan → List Nat
  | .br i _ q => i :: q.idx
  | _ => []

def planB (ops : Array Oper) : Plan → Bool → Nat → Array Bool → Bool
  | .done, false, _, l => (Region.ready .any ops l).isEmpty
  | .take i p, false, f + 1, l => Region.free .any ops l i && (Region.ready .any ops l).contains i && planB ops p false f (l.setIfInBounds i true)
  | .br i p q, false, f + 1, l => (Region.ready .any ops l == (i :: q.idx)) && planB ops p false f (l.setIfInBounds i true) && planB ops q true f l
  | .br i p q, true, f, l => planB ops p false f (l.setIfInBounds i true) && planB ops q true f l
  | .stop, true, _, _ => true
  | _, _, _, _ => false

/-- What is taken first. -/
def takeK (P : Program) (fz : Hp → Prop) (o : Oper) (w : Option Bool) (K : St → Prop) (st : St) : Prop :=
  dstOk st o.dst ∧ match w with
  | some b => brK b (pop2 P st o.op fun x => (∀ hp, fz hp → pop2 P (st.setHp hp) o.op (fun y => y = x)) ∧ K (st.putO o.dst x)) (K (st.putO o.dst (.v undef))) ⟨⟩
  | none => False
def stepK (P : Program) (mu : List Nat) (o : Oper) (w : Option Bool) (K : St → Prop) (st : St) : Prop :=
  match w with
  | some b => brK b (aopK P mu o K st) (dstOk st o.dst ∧ K (st.putO o.dst (.v undef))) ⟨⟩
  | none => False
def nthO (l : List Oper) (i : Nat) (K : Oper → Prop) : Prop := match l[i]? with | some o => K o | none => False

def drawK (P : Program) (mu : List Nat) (fz : Hp → Prop) (l : List Oper) : Plan → (St → Prop) → St → Prop
  | .done, K, st => K st
  | .take i p, K, st => nthO l i fun o => takeK P fz o (wants l.toArray o st) (drawK P mu fz l p K) st
  | .br i p q, K, st => (nthO l i fun o => stepK P mu o (wants l.toArray o st) (fun st' => fz st'.hp ∧ drawK P mu fz l p K st') st) ∧ drawK P mu fz l q K st
  | .stop, K, st => True

theorem nthO_elim {l : List Oper} {i : Nat} {K : Oper → Prop} (h : nthO l i K) : ∃ o, l.toArray[i]? = some o ∧ K o := by
  unfold nthO at h
  split at h
  · rename_i o ho; exact ⟨o, by simpa using ho, h⟩
  · exact h.elim

theorem drawK_sound {mu : List Nat} {fz : Hp → Prop} {l : List Oper} (hs : Region.noSelect l.toArray = true) {K : St → Prop} : ∀ (p : Plan) (f : Nat) (listed : Array Bool) (st : St),
    (planB l.toArray p false f listed = true → drawK P mu fz l p K st → AAny P l.toArray K fz f listed st) ∧
    (planB l.toArray p true f listed = true → drawK P mu fz l p K st → ∀ i ∈ p.idx, AStep P l.toArray K fz f listed st i)
  | .done, f, listed, st => ⟨fun hp h => aany_done (by simpa [planB] using hp) h, fun hp h => by simp [planB] at hp⟩
  | .stop, f, listed, st => ⟨fun hp h => by simp [planB] at hp, fun hp h i hi => by simp [Plan.idx] at hi⟩
  | .take i p, f, listed, st => by
    refine ⟨fun hp h => ?_, fun hp h => by simp [planB] at hp⟩
    cases f with
    | zero => simp [planB] at hp
    | succ f =>
      simp only [planB, Bool.and_eq_true] at hp
      obtain ⟨⟨h1, h2⟩, h3⟩ := hp
      obtain ⟨o, ho, hd, hk⟩ := nthO_elim h
      split at hk
      · rename_i b hw
        cases b with
        | true =>
          rw [brK_true] at hk
          obtain ⟨x, ⟨hx, hk⟩, hy⟩ := pop2_sound hk
          exact aany_take ho hs h1 h2 hd (.inl ⟨hw, hy, hx⟩) ((drawK_sound hs p f _ _).1 h3 hk)
        | false =>
          rw [brK_false] at hk
          exact aany_take ho hs h1 h2 hd (.inr ⟨hw, rfl⟩) ((drawK_sound hs p f _ _).1 h3 hk)
      · exact hk.elim
  | .br i p q, f, listed, st => by
    have step : ∀ f, planB l.toArray p false f (listed.setIfInBounds i true) = true → planB l.toArray q true f listed = true → drawK P mu fz l (.br i p q) K st →
        ∀ j ∈ (Plan.br i p q).idx, AStep P l.toArray K fz f listed st j := by
      intro f h1 h2 h j hj
      obtain ⟨ha, hb⟩ := h
      rcases List.mem_cons.1 hj with rfl | hj
      · obtain ⟨o, ho, hk⟩ := nthO_elim ha
        unfold stepK at hk
        split at hk
        · rename_i b hw
          cases b with
          | true =>
            rw [brK_true] at hk
            refine astep_run ho hw ?_
            intro F a w hr K' Q hK'
            exact aopK_sound hk F a w hr K' Q (fun a' w' ⟨st', ⟨hf, k⟩, r⟩ => hK' a' w' ⟨st', ⟨hf, (drawK_sound hs p f _ _).1 h1 k⟩, r⟩)
          | false =>
            rw [brK_false] at hk
            exact astep_skip ho hw hk.1 ((drawK_sound hs p f _ _).1 h1 hk.2.2)
        · exact hk.elim
      · exact (drawK_sound hs q f _ _).2 h2 hb j hj
    refine ⟨fun hp h => ?_, fun hp h => ?_⟩
    · cases f with
      | zero => simp [planB] at hp
      | succ f =>
        simp only [planB, Bool.and_eq_true, beq_iff_eq] at hp
        obtain ⟨⟨h1, h2⟩, h3⟩ := hp
        exact aany_all h1 (by simp) (step f h2 h3 h)
    · simp only [planB, Bool.and_eq_true] at hp
      exact step f hp.1 hp.2 h

theorem draw_by {mu : List Nat} {id : Nat} {l : List Oper} {Q : Exit → St → Prop} {st : St} {fc : Fix (Code.region id l.toArray true)} {fq : Fix Q} (fz : Hp → Prop) (p : Plan) (hm : P.follows .mixedOrders = true) (hfz : fz st.hp)
    (hs : Region.noSelect l.toArray = true) (hp : planB l.toArray p false l.toArray.size (Array.replicate l.toArray.size false) = true) (h : drawK P mu fz l p (Q .normal) st) : awpX P (.region id l.toArray true) Q st fc fq :=
  aw_drawn fz hm hfz ((drawK_sound hs p _ _ _).1 hp h)

/-! ### As equations -/
variable {mu : List Nat} {fz : Hp → Prop} {K : St → Prop} {st : St}
@[go_sem ↓] theorem drawK_done (l : List Oper) : drawK P mu fz l .done K st = K st := rfl
@[go_sem ↓] theorem drawK_stop (l : List Oper) : drawK P mu fz l .stop K st = True := rfl
@[go_sem ↓] theorem drawK_take (l : List Oper) (i : Nat) (p : Plan) : drawK P mu fz l (.take i p) K st = nthO l i fun o => takeK P fz o (wants l.toArray o st) (drawK P mu fz l p K) st := rfl
@[go_sem ↓] theorem drawK_br (l : List Oper) (i : Nat) (p q : Plan) : drawK P mu fz l (.br i p q) K st = ((nthO l i fun o => stepK P mu o (wants l.toArray o st) (fun st' => fz st'.hp ∧ drawK P mu fz l p K st') st) ∧ drawK P mu fz l q K st) := rfl
@[go_sem ↓] theorem nthO_zero (o : Oper) (l : List Oper) (K : Oper → Prop) : nthO (o :: l) 0 K = K o := rfl
@[congr] theorem takeK_congr {o : Oper} {w w' : Option Bool} {st' : St} (h : w = w') (h' : st = st') : takeK P fz o w K st = takeK P fz o w' K st' := by rw [h, h']
@[congr] theorem stepK_congr {o : Oper} {w w' : Option Bool} {st' : St} (h : w = w') (h' : st = st') : stepK P mu o w K st = stepK P mu o w' K st' := by rw [h, h']
@[go_sem] theorem takeK_some (d : Option Nat) (op : Op) (ty : TypeId) (pos : String) (aft : Array Edge) (g : Option (Nat × Bool)) (b : Bool) : takeK P fz ⟨d, op, ty, pos, aft, g⟩ (some b) K st =
    (dstOk st d ∧ brK b (pop2 P st op fun x => (∀ hp, fz hp → pop2 P (st.setHp hp) op (fun y => y = x)) ∧ K (st.putO d x)) (K (st.putO d (.v undef))) ⟨⟩) := rfl
@[go_sem] theorem stepK_some (o : Oper) (b : Bool) : stepK P mu o (some b) K st = brK b (aopK P mu o K st) (dstOk st o.dst ∧ K (st.putO o.dst (.v undef))) ⟨⟩ := rfl
def slotAt (st : St) : List Oper → Nat → Option AV
  | [], _ => none
  | o :: _, 0 => o.dst.bind st.sl
  | _ :: l, j + 1 => slotAt st l j
def wantV (x : Option AV) (want : Bool) : Option Bool := match x with
  | some (.v (.bool b)) => some (b == want)
  | some (.v (.tuple _)) => some false
  | _ => none
theorem slotAt_eq (st : St) : ∀ (l : List Oper) (j : Nat), (((l.toArray[j]?).bind (·.dst)).bind st.sl) = slotAt st l j
  | [], j => by simp [slotAt]
  | o :: l, 0 => by simp [slotAt]
  | o :: l, j + 1 => by rw [slotAt, ← slotAt_eq st l j]; simp
@[go_sem ↓] theorem wants_none (ops : Array Oper) (d : Option Nat) (op : Op) (ty : TypeId) (pos : String) (aft : Array Edge) : wants ops ⟨d, op, ty, pos, aft, none⟩ st = some true := rfl
@[go_sem ↓] theorem wants_some (l : List Oper) (d : Option Nat) (op : Op) (ty : TypeId) (pos : String) (aft : Array Edge) (j : Nat) (want : Bool) : wants l.toArray ⟨d, op, ty, pos, aft, some (j, want)⟩ st = wantV (slotAt st l j) want := by
  simp only [wants, slotAt_eq, wantV]
@[go_sem] theorem wantV_bool (b want : Bool) : wantV (some (.v (.bool b))) want = some (b == want) := rfl
@[go_sem] theorem wantV_undef (want : Bool) : wantV (some (.v undef)) want = some false := rfl
@[go_sem] theorem slotAt_zero (d : Nat) (op : Op) (ty : TypeId) (pos : String) (aft : Array Edge) (g : Option (Nat × Bool)) (l : List Oper) : slotAt st (⟨some d, op, ty, pos, aft, g⟩ :: l) 0 = st.sl d := rfl
@[go_sem] theorem slotAt_succ (o : Oper) (l : List Oper) (j : Nat) : slotAt st (o :: l) (j + 1) = slotAt st l j := rfl
section
variable (K : AV → Prop)
@[go_sem ↓] theorem pop2_move (x : Operand) : pop2 P st (.move x) K = withAV (st.ev x) K := rfl
@[go_sem ↓] theorem pop2_assign (x : Operand) : pop2 P st (.assign x) K = withAV (st.ev x) K := rfl
@[go_sem ↓] theorem pop2_pick (c a b : Operand) : pop2 P st (.pick c a b) K = withAV (st.ev c) fun c => pickK c (st.ev a) (st.ev b) K := rfl
@[go_sem ↓] theorem pop2_bin (op : BinOp) (t t' : TypeId) (x y : Operand) : pop2 P st (.binOp op t x y t') K = withAV (st.ev x) fun a => withAV (st.ev y) fun b => binK P op t a b K := rfl
@[go_sem ↓] theorem pop2_un (op : UnOp) (t : TypeId) (x : Operand) : pop2 P st (.unOp op t x) K = withAV (st.ev x) fun a => unK op a K := rfl
@[go_sem ↓] theorem pop2_load (t : TypeId) (x : Operand) : pop2 P st (.load t x) K = withAV (st.ev x) fun a => loadK P st.hp t a K := rfl
@[go_sem ↓] theorem pop2_fieldAddr (s : TypeId) (x : Operand) (f : Nat) : pop2 P st (.fieldAddr s x f) K = withAV (st.ev x) fun a => fieldAddrK P s a f K := rfl
@[go_sem ↓] theorem pop2_indexAddr (t : TypeId) (x i : Operand) : pop2 P st (.indexAddr t x i) K = withAV (st.ev x) fun a => withAV (st.ev i) fun i => indexAddrK P t a i K := rfl
@[go_sem ↓] theorem pop2_index (t : TypeId) (x i : Operand) : pop2 P st (.index t x i) K = withAV (st.ev x) fun a => withAV (st.ev i) fun i => indexK P t a i K := rfl
@[go_sem ↓] theorem pop2_field (s : TypeId) (x : Operand) (f : Nat) : pop2 P st (.field s x f) K = withAV (st.ev x) fun a => fieldK P s a f K := rfl
@[go_sem ↓] theorem pop2_extract (x : Operand) (i : Nat) : pop2 P st (.extract x i) K = withAV (st.ev x) fun a => extractK a i K := rfl
@[go_sem ↓] theorem pop2_convert (s d : TypeId) (x : Operand) : pop2 P st (.convert s d x) K = withAV (st.ev x) fun a => cvtK P s d a K := rfl
@[go_sem ↓] theorem pop2_makeInterface (t : TypeId) (x : Operand) : pop2 P st (.makeInterface t x) K = withAV (st.ev x) fun a => mkIfcK P t a K := rfl
@[go_sem ↓] theorem pop2_makeFunc (f : Fn) (a b : Array Operand) : pop2 P st (.makeFunc f a b) K = mkFnK st f a b K := rfl
@[go_sem ↓] theorem pop2_nilCheck (x : Operand) : pop2 P st (.nilCheck x) K = withAV (st.ev x) fun a => nilCheckK a K := rfl
@[go_sem ↓] theorem pop2_len (x : Operand) (t : TypeId) : pop2 P st (.call { callee := .builtin .len, args := [x].toArray, argTypes := [t].toArray }) K = withAV (st.ev x) fun a => lenK P st.hp t a K := rfl
@[go_sem ↓] theorem pop2_lookup (t : TypeId) (m k : Operand) (ok : Bool) : pop2 P st (.lookup t m k ok) K = withAV (st.ev m) fun a => withAV (st.ev k) fun b => lookupK P st.hp t a b ok K := rfl
end
attribute [go_sem] implies_true
@[go_sem ↓] theorem nthO_succ (o : Oper) (l : List Oper) (i : Nat) (K : Oper → Prop) : nthO (o :: l) (i + 1) K = nthO l i K := rfl
end
end Go.AL
/- Strings as lists of bytes; what a state says of lengths; contracts of the library; appends. -/
set_option linter.unusedVariables false
set_option linter.unusedSimpArgs false
namespace Go.AL
section
variable {P : Program}

/-! ### Strings -/
def bs (l : List UInt8) : ByteArray := ⟨l.toArray⟩
@[go_sem] theorem bs_of (l : List UInt8) : ByteArray.mk l.toArray = bs l := rfl
@[go_sem] theorem bs_empty : ByteArray.empty = bs [] := rfl
@[go_sem] theorem bs_size (l : List UInt8) : (bs l).size = l.length := rfl
@[go_sem] theorem bs_data (l : List UInt8) : (bs l).data.toList = l := rfl
theorem bs_self (s : ByteArray) : bs s.data.toList = s := by cases s; rfl
theorem bs_inj {a b : List UInt8} : bs a = bs b ↔ a = b := by
  constructor
  · intro h; have := congrArg (fun s : ByteArray => s.data.toList) h; simpa [bs] using this
  · rintro rfl; rfl
@[go_sem] theorem bs_dec (a b : List UInt8) : (decide (bs a = bs b)) = decide (a = b) := by simp [bs_inj]
@[go_sem] theorem bs_append (a b : List UInt8) : bs a ++ bs b = bs (a ++ b) := by
  apply ByteArray.ext
  rw [ByteArray.data_append]
  simp [bs]
@[go_sem] theorem bs_get (l : List UInt8) (i : Nat) : (bs l)[i]? = l[i]? := by
  by_cases h : i < l.length
  · rw [getElem?_pos (bs l) i (by show i < (bs l).size; rw [bs_size]; exact h), List.getElem?_eq_getElem h]
    rfl
  · rw [getElem?_neg (bs l) i (by show ¬ i < (bs l).size; rw [bs_size]; exact h), List.getElem?_eq_none (by omega)]
@[go_sem] theorem bs_extract (l : List UInt8) (a b : Nat) : (bs l).extract a b = bs ((l.take b).drop a) := by
  apply ByteArray.ext
  rw [ByteArray.data_extract]
  apply Array.ext'
  simp only [bs, Array.toList_extract, List.extract_eq_take_drop, List.drop_take]

/-! ### Lengths -/
mutual
def AV.fit : AV → Prop
  | .v _ => True
  | .lst _ _ xs => xs.length ≤ maxLen ∧ AV.fits xs
  | .ref _ cs => AV.fits cs
  | .agg cs => AV.fits cs
  | .tup l => AV.fits l
  | .ifc _ a => a.fit
  | .fn _ a b => AV.fits a ∧ AV.fits b
def AV.fits : List AV → Prop
  | [] => True
  | a :: l => a.fit ∧ AV.fits l
end
mutual
theorem AV.fit_of {m : Mem} : ∀ (a : AV), a.ok m → a.fit
  | .v _, _ => trivial
  | .lst _ _ xs, h => by
    obtain ⟨⟨a, cap, _, e1, e2, _⟩, h2⟩ := h
    rw [AV.vals_length] at e1
    exact ⟨Nat.le_trans e1 e2, AV.fits_of xs h2⟩
  | .ref _ cs, h => AV.fits_of cs h.2
  | .agg cs, h => AV.fits_of cs h
  | .tup cs, h => AV.fits_of cs h
  | .ifc _ a, h => AV.fit_of a h
  | .fn _ a b, h => ⟨AV.fits_of a h.1, AV.fits_of b h.2⟩
theorem AV.fits_of {m : Mem} : ∀ (l : List AV), AV.oks m l → AV.fits l
  | [], _ => trivial
  | a :: l, h => ⟨AV.fit_of a h.1, AV.fits_of l h.2⟩
end
theorem AV.fits_iff (l : List AV) : AV.fits l ↔ ∀ a ∈ l, a.fit := by
  induction l with
  | nil => simp [AV.fits]
  | cons a l ih => simp [AV.fits, ih]

/-- A call may lean on the lengths of its arguments. -/
theorem acalls_fit {f : FuncId} {args : List AV} {hp : Hp} {R : AV → Hp → Prop} (hc : Callable P f) (h : AV.fits args → ACalls P f args hp R) : ACalls P f args hp R :=
  ⟨hc, fun F w hv => by
    obtain ⟨hlo, m, hle, hhp, hok⟩ := hv
    exact (h (AV.fits_of args hok)).2 F w ⟨hlo, m, hle, hhp, hok⟩⟩

/-! ### Contracts of the library -/
/-- A contract that leaves the world alone. -/
theorem acalls_world {f : FuncId} {args : List AV} {hp : Hp} {r : AV} (hc : Callable P f) (hr : ∀ m, AV.oks m args → r.ok m)
    (h : ∀ base m w, HpOk base hp m w → AV.oks m args → Calls P f (AV.vals args).toArray w (fun e w' => e = .returned r.val ∧ w' = w)) : ACalls P f args hp (fun r' hp' => r' = r ∧ hp' = hp) :=
  ⟨hc, fun F w hv => by
    obtain ⟨hlo, m, hle, hhp, hok⟩ := hv
    refine (h F.base m w hhp hok).mono ?_
    rintro e w' ⟨rfl, rfl⟩
    exact ⟨r, hp, ⟨rfl, rfl⟩, rfl, hlo, m, hle, hhp, hr m hok, trivial⟩⟩

/-- A contract that makes new memory alone. -/
theorem acalls_below {f : FuncId} {args : List AV} {hp : Hp} {r : AV} (hc : Callable P f) (hr : ∀ m, AV.oks m args → r.ok m)
    (h : ∀ base m w, HpOk base hp m w → AV.oks m args → Calls P f (AV.vals args).toArray w (fun e w' => e = .returned r.val ∧ Go.RowKit.Below w.heap.size w w')) : ACalls P f args hp (fun r' hp' => r' = r ∧ hp' = hp) :=
  ⟨hc, fun F w hv => by
    obtain ⟨hlo, m, hle, hhp, hok⟩ := hv
    refine (h F.base m w hhp hok).mono ?_
    rintro e w' ⟨rfl, hb⟩
    exact ⟨r, hp, ⟨rfl, rfl⟩, rfl, hlo.grow hb.os hb.tape hb.output hb.size (fun k hk => hb.block k (Nat.lt_of_lt_of_le hk hlo.bs)), m, hle, hhp.world hb.block, hr m hok, trivial⟩⟩

theorem callable_of {f : FuncId} {fn : Func} (hf : P.funcs[f]? = some fn) (h : ((fn.name == "runtime.NumGoroutine") || fn.body.isNone) = false) : Callable P f := by
  simp only [Bool.or_eq_false_iff] at h
  exact ⟨fn, hf, h.1, h.2⟩

theorem Hp.le_addSp (hp : Hp) (x : TypeId × Nat × Value) : hp.le (hp.setSp (x :: hp.sp)) := ⟨fun _ _ h => h, fun _ _ h => h, List.sublist_cons_self _ _, fun _ h => h⟩
theorem Hp.le_setBlk (hp : Hp) (b : Nat) (T : TypeId) (cs : List AV) (h : hp.blk b = none) : hp.le (hp.setBlk b T cs) :=
  ⟨fun i x hx => by rw [Hp.setBlk_blk]; split
                    · rename_i e; subst e; rw [h] at hx; cases hx
                    · exact hx, fun _ _ h => h, List.Sublist.refl _, fun _ h => h⟩
theorem Hp.le_setMp (hp : Hp) (b : Nat) (es : List (Value × AV)) (h : hp.mp b = none) : hp.le (hp.setMp b es) :=
  ⟨fun _ _ h => h, fun i x hx => by rw [Hp.setMp_mp]; split
                                    · rename_i e; subst e; rw [h] at hx; cases hx
                                    · exact hx, List.Sublist.refl _, fun _ h => h⟩

/-! ### Appends, as they stand in a walk -/
theorem append_by {d : Option Nat} {ty : TypeId} {pos : String} {aft : Array Edge} {g : Option (Nat × Bool)} {t e : TypeId} {s x : Operand} {sz by_ : Nat} {z : Value} {K : St → Prop} {st : St} {a b : AV} {h h2 : Value} {xs ys : List AV}
    {l1 l2 : List (TypeId × Nat × Value)} {fo : Fix (⟨d, .call { callee := .builtin .append, args := [s, x].toArray, argTypes := [t, t].toArray }, ty, pos, aft, g⟩ : Oper)} {fk : Fix K}
    (hk : kindT P t = .sl e) (hsz : szT P e = some sz) (hby : bytesT P e = some by_) (hz : zeroT P e = some z) (hzs : z.cells.size = sz) (hpos : 0 < sz)
    (hs : st.ev s = some a) (ca : Cast a (.lst sz h xs)) (hx : st.ev x = some b) (cb : Cast b (.lst sz h2 ys)) (hsp : st.hp.sp = l1 ++ (e, sz, h) :: l2)
    (hone : (ys.flatMap AV.cells).all AV.one = true) (h63 : xs.length + ys.length ≤ maxLen) (hbytes : (xs.length + ys.length) * by_ ≤ 140737488355328) (hd : dstOk st d)
    (hK : ∀ h', K ((st.setHp (st.hp.setSp (l1 ++ (e, sz, h') :: l2))).putO d (.lst sz h' (xs ++ ys)))) :
    aopX P ⟨d, .call { callee := .builtin .append, args := [s, x].toArray, argTypes := [t, t].toArray }, ty, pos, aft, g⟩ K st fo fk :=
  aop_append rfl hk hsz hby hz hzs hpos hs ca hx cb hsp hone h63 hbytes hd hK

theorem append0_by {d : Option Nat} {ty : TypeId} {pos : String} {aft : Array Edge} {g : Option (Nat × Bool)} {t e : TypeId} {s x : Operand} {sz by_ : Nat} {z : Value} {K : St → Prop} {st : St} {a b : AV} {h2 : Value} {ys : List AV}
    {fo : Fix (⟨d, .call { callee := .builtin .append, args := [s, x].toArray, argTypes := [t, t].toArray }, ty, pos, aft, g⟩ : Oper)} {fk : Fix K}
    (hk : kindT P t = .sl e) (hsz : szT P e = some sz) (hby : bytesT P e = some by_) (hz : zeroT P e = some z) (hzs : z.cells.size = sz) (hpos : 0 < sz)
    (hs : st.ev s = some a) (ca : Cast a (.lst sz (.slice none 0 0) [])) (hx : st.ev x = some b) (cb : Cast b (.lst sz h2 ys))
    (hone : (ys.flatMap AV.cells).all AV.one = true) (h63 : ys.length ≤ maxLen) (hbytes : ys.length * by_ ≤ 140737488355328) (hd : dstOk st d)
    (hK : ∀ h', K ((st.setHp (st.hp.setSp ((e, sz, h') :: st.hp.sp))).putO d (.lst sz h' ys))) :
    aopX P ⟨d, .call { callee := .builtin .append, args := [s, x].toArray, argTypes := [t, t].toArray }, ty, pos, aft, g⟩ K st fo fk :=
  aop_append0 rfl hk hsz hby hz hzs hpos hs ca hx cb hone h63 hbytes hd hK
end
end Go.AL
/- Rules that came late: a nil slice to append to, what is told otherwise at a loop. -/
set_option linter.unusedVariables false
set_option linter.unusedSimpArgs false
namespace Go.AL
section
variable {P : Program}
theorem addNil_by {c : Code} {Q : Exit → St → Prop} {st : St} {fc : Fix c} {fq : Fix Q} (e : TypeId) (sz : Nat) (h : awpX P c Q (st.setHp (st.hp.setSp ((e, sz, .slice none 0 0) :: st.hp.sp))) fc fq) : awpX P c Q st fc fq :=
  fun F a w hr => h F a w (hr.addNil e sz)

/-- What a slot holds may be told otherwise. -/
theorem le_of_cast {n : Nat} {l : List (Nat × AV)} {hp : Hp} {s' : St} (hn : n = s'.n) (hh : hp.le s'.hp) (hl : ∀ p ∈ l, ∃ y, s'.sl p.1 = some y ∧ Cast y p.2) : St.le ⟨n, mkSl l, hp⟩ s' := by
  refine ⟨hn, fun i x hx => ?_, hh⟩
  have hx' : mkSl l i = some x := hx
  clear hn hh hx
  induction l with
  | nil => cases hx'
  | cons p l ih =>
    obtain ⟨d, y⟩ := p
    simp only [mkSl] at hx'
    split at hx'
    · rename_i e; subst e; obtain rfl := Option.some.inj hx'; exact hl (i, y) (by simp)
    · exact ih (fun q hq => hl q (by simp [hq])) hx'

theorem le_tail (hp : Hp) (x y : TypeId × Nat × Value) (l : List (TypeId × Nat × Value)) : (hp.setSp (y :: l)).le (hp.setSp (x :: y :: l)) :=
  ⟨fun _ _ h => h, fun _ _ h => h, List.sublist_cons_self _ _, fun _ h => h⟩
end
end Go.AL
