/- What a valid program says of the types that a term binds. -/
import Derived.Test.YtkoachnlimebaaaGreatDoorCU9
import Derived.Test.YtkoachnlimebaaaGreatDoorCAL41
import Derived.Test.YtkoachnlimebaaaGreatDoorCAL48
import Derived.Test.YtkoachnlimebaaaGreatDoorCAL48
import Derived.Test.YtkoachnlimebaaaGreatDoorCAL48
set_option linter.unusedSimpArgs false
set_option linter.unusedVariables false
set_option maxRecDepth 20000
namespace Go.Proofs.YtkoachnlimebaaaGreatDoor
open Go.AL

def TypedR (l : List DeclG) : Prop := ∀ d ∈ l, ∀ x ∈ d.xtors, ∀ a ∈ x.args, 0 ≤ a.typ ∧ a.typ ≤ l.length
theorem fits_types (n : Nat) : ∀ (xs : List XtorG) (sn sn' : List Bytes), fitsAll n sn xs = some sn' → ∀ x ∈ xs, ∀ a ∈ x.args, 0 ≤ a.typ ∧ a.typ ≤ n
  | [], _, _, _, x, hx => by cases hx
  | y :: r, sn, sn', h, x, hx => by
    simp only [fitsAll] at h
    split at h
    · rename_i hy
      rcases List.mem_cons.1 hx with rfl | hx
      · intro a ha
        simp only [xtorB, Bool.and_eq_true, List.all_eq_true] at hy
        have := hy.2 a ha
        simp only [argB, Bool.not_eq_true', Bool.or_eq_false_iff, decide_eq_false_iff_not] at this
        omega
      · exact fits_types n r _ _ h x hx
    · cases h
theorem from_types (n : Nat) : ∀ (l : List DeclG) (names seen : List Bytes), validFrom n names seen l = true → ∀ d ∈ l, ∀ x ∈ d.xtors, ∀ a ∈ x.args, 0 ≤ a.typ ∧ a.typ ≤ n
  | [], _, _, _ => fun d hd => by cases hd
  | d :: r, names, seen, h => by
    rw [validFrom, Bool.and_eq_true] at h
    cases hf : fitsAll n seen d.xtors with
    | none => rw [hf] at h; cases h.2
    | some s =>
      rw [hf] at h
      intro e he
      rcases List.mem_cons.1 he with rfl | he
      · exact fits_types n _ _ _ hf
      · exact from_types n r _ _ h.2 e he
theorem typed_valid {l : List DeclG} (h : validB l = true) : TypedR l := by
  rw [validB, Bool.and_eq_true] at h; exact from_types _ _ _ _ h.2
theorem xtor_types {ds : List DeclG} (ht : TypedR ds) {t n : Int} : ∀ ty ∈ prodsX (xtorAt ds t n), 0 ≤ ty ∧ ty ≤ ds.length := by
  intro ty hty
  simp only [prodsX, List.mem_map, List.mem_filter] at hty
  obtain ⟨a, ⟨ha, _⟩, rfl⟩ := hty
  unfold xtorAt xtorsOf at ha
  cases hd : ds[(t - 1).toNat]? with
  | none => rw [hd] at ha; simp at ha
  | some d =>
    rw [hd] at ha
    simp only [Option.map_some, Option.getD_some] at ha
    cases hx : d.xtors[n.toNat]? with
    | none => rw [hx] at ha; simp at ha
    | some x =>
      rw [hx] at ha
      exact ht d (List.mem_of_getElem? hd) x (List.mem_of_getElem? hx) a ha
theorem heads_types (ds : List DeclG) : ∀ (i : Nat) (l : List FunG), headsB ds i l = true → ∀ f ∈ l, ∀ x ∈ f.params, 0 ≤ x.ty ∧ x.ty ≤ ds.length
  | _, [], _ => fun f hf => by cases hf
  | i, g :: r, h => by
    rw [headsB, Bool.and_eq_true] at h
    intro f hf
    rcases List.mem_cons.1 hf with rfl | hf
    · intro x hx
      have h1 := h.1
      simp only [headX, Bool.and_eq_true, List.all_eq_true] at h1
      have := h1.1 x hx
      simp only [paramX, typB, Bool.and_eq_true, decide_eq_true_eq] at this
      exact ⟨by omega, by omega⟩
    · exact heads_types ds (i + 1) r h.2 f hf
theorem types_in {p : ProgG} (hp : progB p = true) {V L : Bytes → Bool} {t : TermG} (hn : nodeB p.ds (pfs p.fs) V L t = true) : ∀ ty ∈ typesG p.ds p.fs t, 0 ≤ ty ∧ ty ≤ p.ds.length := by
  intro ty hty
  simp only [progB, Bool.and_eq_true] at hp
  have ht := typed_valid hp.1.1
  unfold typesG at hty
  split at hty
  · exact xtor_types ht ty hty
  · split at hty
    · cases hf : p.fs[t.n.toNat]? with
      | none => rw [hf] at hty; simp at hty
      | some f =>
        rw [hf] at hty
        simp only [Option.map_some, Option.getD_some, List.mem_map] at hty
        obtain ⟨x, hx, rfl⟩ := hty
        exact heads_types _ _ _ hp.2.2.2.1 f (List.mem_of_getElem? hf) x hx
    · split at hty
      · rename_i h8
        simp only [List.mem_singleton] at hty
        subst hty
        simp [nodeB, h8, typB] at hn
        omega
      · split at hty
        · have : ty = 0 := by simpa using hty
          omega
        · simp at hty
theorem run_ok {p : ProgG} (h : progB p = true) : RunOk p.ds p.fs := ⟨fun f hf => (runp_body h f hf).2.2⟩
theorem plus_cod {ds : List DeclG} {t : Int} (h0 : 0 ≤ t) (h1 : t ≤ ds.length) : plusB ds t = !(decide (t ≥ 1) && decide (t ≤ ds.length) && codataB ds t) := by
  unfold plusB codataB
  by_cases h : t = 0
  · simp [h]
  · have h2 : t ≥ 1 := by omega
    simp [h, h2, h1]
end Go.Proofs.YtkoachnlimebaaaGreatDoor
/- The machine of direct evaluation: how the program's memory pictures it. -/
set_option linter.unusedSimpArgs false
set_option linter.unusedVariables false
set_option maxRecDepth 20000
namespace Go.Proofs.YtkoachnlimebaaaGreatDoor
open Go.AL

mutual
/-- A value. -/
inductive PV : ValG → AV → Prop where
  | int (n : Int) : PV (.int n) (.ifc 3 (.v (.int .i64 n)))
  | con (ty n : Int) (args : List BndG) (h : Value) (gs : List AV) (ha : PBs args gs) : PV (.con ty n args) (.ifc 252 (.agg [.v (.int .i64 ty), .v (.int .i64 n), .lst 2 h gs]))
  | obj (t : TermG) (e : EnvG) (ea : AV) (he : PE e ea) : PV (.obj t e) (.ifc 166 (.agg [.v (.int .i64 t.op), .v (.int .i64 t.n), .v (.string (bs t.name)), .v (.int .i64 t.ty), .lst 6 t.ha (t.args.map TermG.av), .lst 7 t.hc (t.cls.map ClauseG.av), ea]))
/-- A bound: its two cells. -/
inductive PB : BndG → AV → AV → Prop where
  | val (v : ValG) (a : AV) (h : PV v a) : PB (.val v) a (.v (.pointer none))
  | thunk (t : TermG) (e : EnvG) (ea : AV) (p : Value) (he : PE e ea) : PB (.thunk t e) (.v .nilIface) (.ref p [.v (.int .i64 t.op), .v (.int .i64 t.n), .v (.string (bs t.name)), .v (.int .i64 t.ty), .lst 6 t.ha (t.args.map TermG.av), .lst 7 t.hc (t.cls.map ClauseG.av), ea])
inductive PBs : List BndG → List AV → Prop where
  | nil : PBs [] []
  | cons (b : BndG) (x y : AV) (l : List BndG) (r : List AV) (h : PB b x y) (hr : PBs l r) : PBs (b :: l) (.agg [x, y] :: r)
/-- An environment: name, bound, frame, label, next. -/
inductive PE : EnvG → AV → Prop where
  | nil : PE .nil (.v (.pointer none))
  | var (s : Bytes) (b : BndG) (e : EnvG) (x y ea : AV) (p : Value) (hb : PB b x y) (he : PE e ea) : PE (.var s b e) (.ref p [.v (.string (bs s)), x, y, .v (.pointer none), .v (.bool false), ea])
  | lab (s : Bytes) (k : FrmG) (e : EnvG) (ka ea : AV) (p : Value) (hk : PK k ka) (he : PE e ea) : PE (.lab s k e) (.ref p [.v (.string (bs s)), .v .nilIface, .v (.pointer none), ka, .v (.bool true), ea])
/-- A frame: rest, term, environment, what is got, next. -/
inductive PK : FrmG → AV → Prop where
  | nil : PK .nil (.v (.pointer none))
  | app (t : TermG) (e : EnvG) (got : List BndG) (k : FrmG) (ea ka : AV) (h p : Value) (gs : List AV) (he : PE e ea) (hg : PBs got gs) (hk : PK k ka) : PK (.app t e got k) (.ref p [.ifc 217 (.agg []), .v (.int .i64 t.op), .v (.int .i64 t.n), .v (.string (bs t.name)), .v (.int .i64 t.ty), .lst 6 t.ha (t.args.map TermG.av), .lst 7 t.hc (t.cls.map ClauseG.av), ea, .lst 2 h gs, ka])
  | obs (t : TermG) (e : EnvG) (got : List BndG) (k : FrmG) (ea ka : AV) (h p : Value) (gs : List AV) (he : PE e ea) (hg : PBs got gs) (hk : PK k ka) : PK (.obs t e got k) (.ref p [.ifc 253 (.agg []), .v (.int .i64 t.op), .v (.int .i64 t.n), .v (.string (bs t.name)), .v (.int .i64 t.ty), .lst 6 t.ha (t.args.map TermG.av), .lst 7 t.hc (t.cls.map ClauseG.av), ea, .lst 2 h gs, ka])
  | cas (t : TermG) (e : EnvG) (k : FrmG) (ea ka g : AV) (p : Value) (he : PE e ea) (hk : PK k ka) : PK (.cas t e k) (.ref p [.ifc 165 (.agg []), .v (.int .i64 t.op), .v (.int .i64 t.n), .v (.string (bs t.name)), .v (.int .i64 t.ty), .lst 6 t.ha (t.args.map TermG.av), .lst 7 t.hc (t.cls.map ClauseG.av), ea, g, ka])
  | tst (t : TermG) (e : EnvG) (k : FrmG) (ea ka g : AV) (p : Value) (he : PE e ea) (hk : PK k ka) : PK (.tst t e k) (.ref p [.ifc 164 (.agg []), .v (.int .i64 t.op), .v (.int .i64 t.n), .v (.string (bs t.name)), .v (.int .i64 t.ty), .lst 6 t.ha (t.args.map TermG.av), .lst 7 t.hc (t.cls.map ClauseG.av), ea, g, ka])
end
theorem PBs.len : ∀ {l : List BndG} {gs : List AV}, PBs l gs → gs.length = l.length
  | [], _, h => by cases h; rfl
  | b :: l, _, h => by cases h with | cons _ x y _ r hb hr => rw [List.length_cons, List.length_cons, hr.len]
theorem PBs.at : ∀ {l : List BndG} {gs : List AV} {i : Nat} {b : BndG}, PBs l gs → l[i]? = some b → ∃ x y, gs[i]? = some (.agg [x, y]) ∧ PB b x y
  | [], _, _, _, _, h => by simp at h
  | b :: l, _, 0, c, hp, h => by
    cases hp with | cons _ x y _ r hb hr =>
    simp at h; subst h
    exact ⟨x, y, rfl, hb⟩
  | b :: l, _, i + 1, c, hp, h => by
    cases hp with | cons _ x y _ r hb hr =>
    obtain ⟨x', y', h1, h2⟩ := hr.at (i := i) (by simpa using h)
    exact ⟨x', y', by simpa using h1, h2⟩
theorem PBs.snoc : ∀ {l : List BndG} {gs : List AV} {b : BndG} {x y : AV}, PBs l gs → PB b x y → PBs (l ++ [b]) (gs ++ [.agg [x, y]])
  | [], _, b, x, y, hp, h => by cases hp; exact .cons _ _ _ _ _ h .nil
  | c :: l, _, b, x, y, hp, h => by
    cases hp with | cons _ x' y' _ r hb hr =>
    exact .cons _ _ _ _ _ hb (hr.snoc h)

/-- What the machine holds. -/
structure MS where
  how : Int
  val : Int
  oh : Value
  outs : List Int
  steps : Int
  t : TermG
  ea : AV
  ka : AV
  va : AV
  given : Bool
  over : Bool
def MS.cs (p : ProgG) (fuel : Int) (s : MS) : List AV :=
  [.lst 3 p.hd (p.ds.map DeclG.av), .lst 9 p.hf (p.fs.map FunG.av), .v (.int .i64 s.how), .v (.int .i64 s.val), .lst 1 s.oh (s.outs.map iv), .v (.int .i64 s.steps), .v (.int .i64 fuel),
   .v (.int .i64 s.t.op), .v (.int .i64 s.t.n), .v (.string (bs s.t.name)), .v (.int .i64 s.t.ty), .lst 6 s.t.ha (s.t.args.map TermG.av), .lst 7 s.t.hc (s.t.cls.map ClauseG.av), s.ea, s.ka, s.va, .v (.bool s.given), .v (.bool s.over)]
def CtlP : Ctl → MS → Prop
  | .ev t e k, s => s.given = false ∧ s.t = t ∧ PE e s.ea ∧ PK k s.ka
  | .gv v k, s => s.given = true ∧ PV v s.va ∧ PK k s.ka
structure MacP (m : MacG) (s : MS) : Prop where
  outs : s.outs = m.outs
  steps : s.steps = m.steps
  ctl : m.fin = none → s.over = false ∧ CtlP m.c s
  fin : ∀ how val, m.fin = some (how, val) → s.over = true ∧ s.how = how ∧ s.val = val
end Go.Proofs.YtkoachnlimebaaaGreatDoor
/- Direct evaluation: what writes the machine; environments. -/
set_option linter.unusedSimpArgs false
set_option linter.unusedVariables false
set_option maxRecDepth 20000
set_option maxHeartbeats 4000000
namespace Go.Proofs.YtkoachnlimebaaaGreatDoor
open Go.AL

/-- A value of one cell. -/
structure One (a : AV) : Prop where
  cells : a.cells = [a]
  one : a.one = true
theorem one_v (x : Value) (h : x.oneCell' = true) (h' : (AV.v x).cells = [.v x]) : One (.v x) := ⟨h', h⟩
theorem PE.o {e : EnvG} {a : AV} (h : PE e a) : One a := by cases h <;> exact ⟨rfl, rfl⟩
theorem PK.o {e : FrmG} {a : AV} (h : PK e a) : One a := by cases h <;> exact ⟨rfl, rfl⟩
theorem PV.o {e : ValG} {a : AV} (h : PV e a) : One a := by cases h <;> exact ⟨rfl, rfl⟩
theorem PB.o {e : BndG} {x y : AV} (h : PB e x y) : One x ∧ One y := by
  cases h with
  | val v a h => exact ⟨h.o, ⟨rfl, rfl⟩⟩
  | thunk t e ea p he => exact ⟨⟨rfl, rfl⟩, ⟨rfl, rfl⟩⟩

theorem mend_calls (b : Nat) (p : ProgG) (fuel : Int) (s : MS) (how val : Int) (hp : Hp) (hb : hp.blk b = some (75, s.cs p fuel)) :
    ACalls Tryz.prog 79 [ptr0 b, .v (.int .i64 how), .v (.int .i64 val)] hp (fun r hp' => r = .tup [] ∧ hp' = hp.setBlk b 75 (({ s with how := how, val := val, over := true } : MS).cs p fuel)) := by
  refine acalls_of Tryz.func79 rfl (by decide +kernel) (awp_sound (mu := [13, 16, 18]) _ _ _ ?_)
  simp only [MS.cs] at hb
  simp only [go_sem, Nat.reduceEqDiff, Nat.reduceAdd, Nat.reduceSub, Nat.reduceLT, Nat.reduceMul, Nat.reduceBEq, Nat.reduceLeDiff, ↓reduceIte, Int.reduceToNat, Nat.reduceGT, Int.reduceLE, Int.reduceLT, Int.reduceGE, Int.reduceGT, Int.reduceEq, Int.reduceNe, reduceCtorEq, ptr0, hb]
  refine ret_same ?_
  exact ⟨rfl, rfl⟩
theorem meval_calls (b : Nat) (p : ProgG) (fuel : Int) (s : MS) (t : TermG) (ea ka : AV) (h1 : One ea) (h2 : One ka) (hp : Hp) (hb : hp.blk b = some (75, s.cs p fuel)) :
    ACalls Tryz.prog 35 [ptr0 b, t.av, ea, ka] hp (fun r hp' => r = .tup [] ∧ hp' = hp.setBlk b 75 (({ s with t := t, ea := ea, ka := ka, given := false } : MS).cs p fuel)) := by
  refine acalls_of Tryz.func35 rfl (by decide +kernel) (awp_sound (mu := [16, 18, 20, 22]) _ _ _ ?_)
  simp only [MS.cs] at hb
  have e1 := ((AV.cells.eq_1 _).symm.trans h1.cells); have e2 := ((AV.cells.eq_1 _).symm.trans h2.cells); have e3 := h1.one; have e4 := h2.one
  simp only [go_sem, Nat.reduceEqDiff, Nat.reduceAdd, Nat.reduceSub, Nat.reduceLT, Nat.reduceMul, Nat.reduceBEq, Nat.reduceLeDiff, ↓reduceIte, Int.reduceToNat, Nat.reduceGT, Int.reduceLE, Int.reduceLT, Int.reduceGE, Int.reduceGT, Int.reduceEq, Int.reduceNe, reduceCtorEq, ptr0, TermG.av, TermG.cs_eq]
  intro q
  simp only [go_sem, Nat.reduceEqDiff, Nat.reduceAdd, Nat.reduceSub, Nat.reduceLT, Nat.reduceMul, Nat.reduceBEq, Nat.reduceLeDiff, ↓reduceIte, Int.reduceToNat, Nat.reduceGT, Int.reduceLE, Int.reduceLT, Int.reduceGE, Int.reduceGT, Int.reduceEq, Int.reduceNe, reduceCtorEq, hb, e1, e2, e3, e4]
  refine ret_same ?_
  exact ⟨rfl, rfl⟩
theorem mgive_calls (b : Nat) (p : ProgG) (fuel : Int) (s : MS) (va ka : AV) (h1 : One va) (h2 : One ka) (hp : Hp) (hb : hp.blk b = some (75, s.cs p fuel)) :
    ACalls Tryz.prog 81 [ptr0 b, va, ka] hp (fun r hp' => r = .tup [] ∧ hp' = hp.setBlk b 75 (({ s with va := va, ka := ka, given := true } : MS).cs p fuel)) := by
  refine acalls_of Tryz.func81 rfl (by decide +kernel) (awp_sound (mu := [12, 14, 16]) _ _ _ ?_)
  simp only [MS.cs] at hb
  have e1 := ((AV.cells.eq_1 _).symm.trans h1.cells); have e2 := ((AV.cells.eq_1 _).symm.trans h2.cells); have e3 := h1.one; have e4 := h2.one
  simp only [go_sem, Nat.reduceEqDiff, Nat.reduceAdd, Nat.reduceSub, Nat.reduceLT, Nat.reduceMul, Nat.reduceBEq, Nat.reduceLeDiff, ↓reduceIte, Int.reduceToNat, Nat.reduceGT, Int.reduceLE, Int.reduceLT, Int.reduceGE, Int.reduceGT, Int.reduceEq, Int.reduceNe, reduceCtorEq, ptr0, hb, e1, e2, e3, e4]
  refine ret_same ?_
  exact ⟨rfl, rfl⟩
theorem ebind_calls (ea : AV) (s : Bytes) (x y : AV) (h1 : One ea) (h2 : One x) (h3 : One y) (hp : Hp) : ACalls Tryz.prog 34 [ea, .v (.string (bs s)), .agg [x, y]] hp
    (fun r hp' => (∃ q, r = .ref q [.v (.string (bs s)), x, y, .v (.pointer none), .v (.bool false), ea]) ∧ hp' = hp) := by
  refine acalls_of Tryz.func34 rfl (by decide +kernel) (awp_sound (mu := []) _ _ _ ?_)
  have e1 := ((AV.cells.eq_1 _).symm.trans h1.cells); have e2 := ((AV.cells.eq_1 _).symm.trans h2.cells); have e3 := h1.one; have e4 := h2.one; have e5 := ((AV.cells.eq_1 _).symm.trans h3.cells); have e6 := h3.one
  simp only [go_sem, Nat.reduceEqDiff, Nat.reduceAdd, Nat.reduceSub, Nat.reduceLT, Nat.reduceMul, Nat.reduceBEq, Nat.reduceLeDiff, ↓reduceIte, Int.reduceToNat, Nat.reduceGT, Int.reduceLE, Int.reduceLT, Int.reduceGE, Int.reduceGT, Int.reduceEq, Int.reduceNe, reduceCtorEq, e1, e2, e3, e4, e5, e6]
  intro q q'
  exact ret_same ⟨⟨q', rfl⟩, rfl⟩
end Go.Proofs.YtkoachnlimebaaaGreatDoor
/- Direct evaluation: what a name is bound to. -/
set_option linter.unusedSimpArgs false
set_option linter.unusedVariables false
set_option maxRecDepth 20000
set_option maxHeartbeats 4000000
namespace Go.Proofs.YtkoachnlimebaaaGreatDoor
open Go.AL

def envLen : EnvG → Nat
  | .nil => 0
  | .var _ _ e => envLen e + 1
  | .lab _ _ e => envLen e + 1
def zeroEntry : List AV := [.v (.string (bs [])), .v .nilIface, .v (.pointer none), .v (.pointer none), .v (.bool false)]
theorem findV_calls (e : EnvG) (ea : AV) (he : PE e ea) (x : Bytes) (hp : Hp) : ACalls Tryz.prog 80 [ea, .v (.string (bs x)), .v (.bool false)] hp
    (fun r hp' => hp' = hp ∧ ∀ bd, findV e x = some bd → ∃ s u v k l, PB bd u v ∧ r = .agg [s, u, v, k, l]) := by
  refine acalls_of Tryz.func80 rfl (by decide +kernel) (awp_sound (mu := []) _ _ _ ?_)
  simp only [go_sem, Nat.reduceEqDiff, Nat.reduceAdd, Nat.reduceSub, Nat.reduceLT, Nat.reduceBEq, Nat.reduceLeDiff, ↓reduceIte, Int.reduceToNat, Int.reduceLE, Int.reduceLT, Int.reduceEq, reduceCtorEq]
  intro b6 hb6
  have hd6 := fun T cs => Hp.del_set _ _ T cs hb6.1
  refine aw_loopX 34 (fun y : EnvG × AV => [(0, y.2), (1, .v (.string (bs x))), (2, .v (.bool false)), (6, ptr0 b6)]) (fun _ => hp.setBlk b6 149 zeroEntry) (fun y => PE y.1 y.2 ∧ findV y.1 x = findV e x) (fun y => envLen y.1) (e, ea) ⟨he, rfl⟩ (le_mkSl rfl (Hp.le_refl _) (by simp [go_sem, ptr0])) ?_
  rintro ⟨e1, a1⟩ ⟨h1, h2⟩
  simp only at h1 h2
  refine awp_sound (mu := []) _ _ _ ?_
  cases h1 with
  | nil =>
    simp only [go_sem, Nat.reduceEqDiff, Nat.reduceAdd, Nat.reduceSub, Nat.reduceLT, Nat.reduceBEq, Nat.reduceLeDiff, ↓reduceIte, Int.reduceToNat, Int.reduceLE, Int.reduceLT, Int.reduceEq, reduceCtorEq, ptr0, zeroEntry, hd6]
    exact ret_same ⟨rfl, fun bd hbd => by rw [← h2, findV] at hbd; cases hbd⟩
  | lab s k e2 ka ea2 p hk he2 =>
    simp only [go_sem, Nat.reduceEqDiff, Nat.reduceAdd, Nat.reduceSub, Nat.reduceLT, Nat.reduceBEq, Nat.reduceLeDiff, ↓reduceIte, Int.reduceToNat, Int.reduceLE, Int.reduceLT, Int.reduceEq, reduceCtorEq, ptr0, zeroEntry, hd6]
    exact ⟨(e2, ea2), by simp [envLen], ⟨he2, by rw [← h2, findV]⟩, le_mkSl rfl (Hp.le_refl _) (by simp [go_sem, ptr0])⟩
  | var s b e2 u v ea2 p hb he2 =>
    have e1 := ((AV.cells.eq_1 _).symm.trans hb.o.1.cells); have e3 := hb.o.1.one; have e4 := ((AV.cells.eq_1 _).symm.trans hb.o.2.cells); have e5 := hb.o.2.one
    rw [findV] at h2
    simp only [go_sem, Nat.reduceEqDiff, Nat.reduceAdd, Nat.reduceSub, Nat.reduceLT, Nat.reduceBEq, Nat.reduceLeDiff, ↓reduceIte, Int.reduceToNat, Int.reduceLE, Int.reduceLT, Int.reduceEq, reduceCtorEq, ptr0, zeroEntry, hd6, e1, e3, e4, e5]
    refine brK_mk (fun g => ?_) (fun g => ?_) <;> simp only [go_sem, Nat.reduceEqDiff, Nat.reduceAdd, Nat.reduceSub, Nat.reduceLT, Nat.reduceBEq, Nat.reduceLeDiff, ↓reduceIte, Int.reduceToNat, Int.reduceLE, Int.reduceLT, Int.reduceEq, reduceCtorEq, g, ptr0, zeroEntry, hd6, e1, e3, e4, e5]
    · rw [if_pos (of_decide_eq_true g)] at h2
      exact ret_same ⟨rfl, fun bd hbd => by rw [← h2] at hbd; cases hbd; exact ⟨_, _, _, _, _, hb, rfl⟩⟩
    · rw [if_neg (of_decide_eq_false g)] at h2
      exact ⟨(e2, ea2), by simp [envLen], ⟨he2, h2⟩, le_mkSl rfl (Hp.le_refl _) (by simp [go_sem, ptr0])⟩
theorem findL_calls (e : EnvG) (ea : AV) (he : PE e ea) (x : Bytes) (hp : Hp) : ACalls Tryz.prog 80 [ea, .v (.string (bs x)), .v (.bool true)] hp
    (fun r hp' => hp' = hp ∧ ∀ k, findL e x = some k → ∃ s u v ka l, PK k ka ∧ r = .agg [s, u, v, ka, l]) := by
  refine acalls_of Tryz.func80 rfl (by decide +kernel) (awp_sound (mu := []) _ _ _ ?_)
  simp only [go_sem, Nat.reduceEqDiff, Nat.reduceAdd, Nat.reduceSub, Nat.reduceLT, Nat.reduceBEq, Nat.reduceLeDiff, ↓reduceIte, Int.reduceToNat, Int.reduceLE, Int.reduceLT, Int.reduceEq, reduceCtorEq]
  intro b6 hb6
  have hd6 := fun T cs => Hp.del_set _ _ T cs hb6.1
  refine aw_loopX 34 (fun y : EnvG × AV => [(0, y.2), (1, .v (.string (bs x))), (2, .v (.bool true)), (6, ptr0 b6)]) (fun _ => hp.setBlk b6 149 zeroEntry) (fun y => PE y.1 y.2 ∧ findL y.1 x = findL e x) (fun y => envLen y.1) (e, ea) ⟨he, rfl⟩ (le_mkSl rfl (Hp.le_refl _) (by simp [go_sem, ptr0])) ?_
  rintro ⟨e1, a1⟩ ⟨h1, h2⟩
  simp only at h1 h2
  refine awp_sound (mu := []) _ _ _ ?_
  cases h1 with
  | nil =>
    simp only [go_sem, Nat.reduceEqDiff, Nat.reduceAdd, Nat.reduceSub, Nat.reduceLT, Nat.reduceBEq, Nat.reduceLeDiff, ↓reduceIte, Int.reduceToNat, Int.reduceLE, Int.reduceLT, Int.reduceEq, reduceCtorEq, ptr0, zeroEntry, hd6]
    exact ret_same ⟨rfl, fun bd hbd => by rw [← h2, findL] at hbd; cases hbd⟩
  | var s b e2 u v ea2 p hb he2 =>
    simp only [go_sem, Nat.reduceEqDiff, Nat.reduceAdd, Nat.reduceSub, Nat.reduceLT, Nat.reduceBEq, Nat.reduceLeDiff, ↓reduceIte, Int.reduceToNat, Int.reduceLE, Int.reduceLT, Int.reduceEq, reduceCtorEq, ptr0, zeroEntry, hd6]
    exact ⟨(e2, ea2), by simp [envLen], ⟨he2, by rw [← h2, findL]⟩, le_mkSl rfl (Hp.le_refl _) (by simp [go_sem, ptr0])⟩
  | lab s k e2 ka ea2 p hk he2 =>
    have e1 := ((AV.cells.eq_1 _).symm.trans hk.o.cells); have e3 := hk.o.one
    rw [findL] at h2
    simp only [go_sem, Nat.reduceEqDiff, Nat.reduceAdd, Nat.reduceSub, Nat.reduceLT, Nat.reduceBEq, Nat.reduceLeDiff, ↓reduceIte, Int.reduceToNat, Int.reduceLE, Int.reduceLT, Int.reduceEq, reduceCtorEq, ptr0, zeroEntry, hd6, e1, e3]
    refine brK_mk (fun g => ?_) (fun g => ?_) <;> simp only [go_sem, Nat.reduceEqDiff, Nat.reduceAdd, Nat.reduceSub, Nat.reduceLT, Nat.reduceBEq, Nat.reduceLeDiff, ↓reduceIte, Int.reduceToNat, Int.reduceLE, Int.reduceLT, Int.reduceEq, reduceCtorEq, g, ptr0, zeroEntry, hd6, e1, e3]
    · rw [if_pos (of_decide_eq_true g)] at h2
      exact ret_same ⟨rfl, fun bd hbd => by rw [← h2] at hbd; cases hbd; exact ⟨_, _, _, _, _, hk, rfl⟩⟩
    · rw [if_neg (of_decide_eq_false g)] at h2
      exact ⟨(e2, ea2), by simp [envLen], ⟨he2, h2⟩, le_mkSl rfl (Hp.le_refl _) (by simp [go_sem, ptr0])⟩
/-- The result of a primitive operation. -/
theorem prim_calls (op a b : Int) (hp : Hp) : ACalls Tryz.prog 179 [.v (.int .i64 op), .v (.int .i64 a), .v (.int .i64 b)] hp (fun r hp' => r = .v (.int .i64 (primG op a b)) ∧ hp' = hp) := by
  refine acalls_of Tryz.func179 rfl (by decide +kernel) (aw_seq (awp_sound (mu := []) _ _ _ ?_))
  simp only [go_sem, Nat.reduceEqDiff, Nat.reduceAdd, Nat.reduceSub, Nat.reduceLT, Nat.reduceBEq, Nat.reduceLeDiff, ↓reduceIte, Int.reduceToNat, Int.reduceLE, Int.reduceLT, Int.reduceEq, reduceCtorEq]
  refine aw_seq (aw_region (al_cons rfl (aopK_sound (mu := []) ?_)))
  simp only [go_sem, Nat.reduceEqDiff, Nat.reduceAdd, Nat.reduceSub, Nat.reduceLT, Nat.reduceBEq, Nat.reduceLeDiff, ↓reduceIte, Int.reduceToNat, Int.reduceLE, Int.reduceLT, Int.reduceEq, reduceCtorEq]
  intro mb hmb
  refine al_cons rfl (aop_insert (aopK_sound (mu := []) ?_))
  simp only [go_sem, Nat.reduceEqDiff, Nat.reduceAdd, Nat.reduceSub, Nat.reduceLT, Nat.reduceBEq, Nat.reduceLeDiff, ↓reduceIte, Int.reduceToNat, Int.reduceLE, Int.reduceLT, Int.reduceEq, reduceCtorEq]
  refine ⟨rfl, by simp, aopsK_sound (mu := []) _ _ ?_⟩
  simp only [go_sem, Nat.reduceEqDiff, Nat.reduceAdd, Nat.reduceSub, Nat.reduceLT, Nat.reduceBEq, Nat.reduceLeDiff, ↓reduceIte, Int.reduceToNat, Int.reduceLE, Int.reduceLT, Int.reduceEq, reduceCtorEq]
  refine awp_sound (mu := []) _ _ _ ?_
  have hk : ∀ p ∈ mset (Value.bool true) (AV.v (.int .i64 1)) [], keyOk KT.b p.1 = true := by simp [mset, keyOk]
  have hle : hp.le (hp.setMp mb (mset (Value.bool true) (AV.v (.int .i64 1)) [])) := Hp.le_setMp _ _ _ hmb.2.1
  simp only [go_sem, Nat.reduceEqDiff, Nat.reduceAdd, Nat.reduceSub, Nat.reduceLT, Nat.reduceBEq, Nat.reduceLeDiff, ↓reduceIte, Int.reduceToNat, Int.reduceLE, Int.reduceLT, Int.reduceEq, reduceCtorEq]
  refine brK_mk (fun g0 => ?_) (fun g0 => ?_) <;> simp only [go_sem, Nat.reduceEqDiff, Nat.reduceAdd, Nat.reduceSub, Nat.reduceLT, Nat.reduceBEq, Nat.reduceLeDiff, ↓reduceIte, Int.reduceToNat, Int.reduceLE, Int.reduceLT, Int.reduceEq, reduceCtorEq, g0]
  · have o := of_decide_eq_true g0; subst o
    exact ret_le hle ⟨rfl, rfl⟩
  have o0 := of_decide_eq_false g0
  refine brK_mk (fun g1 => ?_) (fun g1 => ?_) <;> simp only [go_sem, Nat.reduceEqDiff, Nat.reduceAdd, Nat.reduceSub, Nat.reduceLT, Nat.reduceBEq, Nat.reduceLeDiff, ↓reduceIte, Int.reduceToNat, Int.reduceLE, Int.reduceLT, Int.reduceEq, reduceCtorEq, g1]
  · have o := of_decide_eq_true g1; subst o
    exact ret_le hle ⟨rfl, rfl⟩
  have o1 := of_decide_eq_false g1
  refine brK_mk (fun g2 => ?_) (fun g2 => ?_) <;> simp only [go_sem, Nat.reduceEqDiff, Nat.reduceAdd, Nat.reduceSub, Nat.reduceLT, Nat.reduceBEq, Nat.reduceLeDiff, ↓reduceIte, Int.reduceToNat, Int.reduceLE, Int.reduceLT, Int.reduceEq, reduceCtorEq, g2]
  · have o := of_decide_eq_true g2; subst o
    exact ret_le hle ⟨rfl, rfl⟩
  have o2 := of_decide_eq_false g2
  refine brK_mk (fun g3 => ?_) (fun g3 => ?_) <;> simp only [go_sem, Nat.reduceEqDiff, Nat.reduceAdd, Nat.reduceSub, Nat.reduceLT, Nat.reduceBEq, Nat.reduceLeDiff, ↓reduceIte, Int.reduceToNat, Int.reduceLE, Int.reduceLT, Int.reduceEq, reduceCtorEq, g3]
  · have o := of_decide_eq_true g3; subst o
    refine brK_mk (fun g => ?_) (fun g => ?_) <;> simp only [go_sem, Nat.reduceEqDiff, Nat.reduceAdd, Nat.reduceSub, Nat.reduceLT, Nat.reduceBEq, Nat.reduceLeDiff, ↓reduceIte, Int.reduceToNat, Int.reduceLE, Int.reduceLT, Int.reduceEq, reduceCtorEq, g]
    · exact ret_le hle ⟨by simp [primG, of_decide_eq_true g], rfl⟩
    · have hb := of_decide_eq_false g
      refine ⟨hb, ?_⟩
      exact ret_le hle ⟨by simp [primG, hb, w64], rfl⟩
  have o3 := of_decide_eq_false g3
  refine brK_mk (fun g4 => ?_) (fun g4 => ?_) <;> simp only [go_sem, Nat.reduceEqDiff, Nat.reduceAdd, Nat.reduceSub, Nat.reduceLT, Nat.reduceBEq, Nat.reduceLeDiff, ↓reduceIte, Int.reduceToNat, Int.reduceLE, Int.reduceLT, Int.reduceEq, reduceCtorEq, g4]
  · have o := of_decide_eq_true g4; subst o
    refine brK_mk (fun g => ?_) (fun g => ?_) <;> simp only [go_sem, Nat.reduceEqDiff, Nat.reduceAdd, Nat.reduceSub, Nat.reduceLT, Nat.reduceBEq, Nat.reduceLeDiff, ↓reduceIte, Int.reduceToNat, Int.reduceLE, Int.reduceLT, Int.reduceEq, reduceCtorEq, g]
    · exact ret_le hle ⟨by simp [primG, of_decide_eq_true g], rfl⟩
    · have hb := of_decide_eq_false g
      refine ⟨hb, ?_⟩
      exact ret_le hle ⟨by simp [primG, hb], rfl⟩
  have o4 := of_decide_eq_false g4
  refine brK_mk (fun g5 => ?_) (fun g5 => ?_) <;> simp only [go_sem, Nat.reduceEqDiff, Nat.reduceAdd, Nat.reduceSub, Nat.reduceLT, Nat.reduceBEq, Nat.reduceLeDiff, ↓reduceIte, Int.reduceToNat, Int.reduceLE, Int.reduceLT, Int.reduceEq, reduceCtorEq, g5]
  · have o := of_decide_eq_true g5; subst o
    refine ⟨rfl, hk, ?_⟩
    refine ret_le hle ⟨?_, rfl⟩
    cases h : decide (a = b)
    · simp [primG, mset, mfind, keyEq, of_decide_eq_false h]
    · simp [primG, mset, mfind, keyEq, of_decide_eq_true h]
  have o5 := of_decide_eq_false g5
  refine ⟨rfl, hk, ?_⟩
  refine ret_le hle ⟨?_, rfl⟩
  cases h : decide (a < b)
  · simp [primG, mset, mfind, keyEq, o0, o1, o2, o3, o4, o5, of_decide_eq_false h]
  · simp [primG, mset, mfind, keyEq, o0, o1, o2, o3, o4, o5, of_decide_eq_true h]
end Go.Proofs.YtkoachnlimebaaaGreatDoor
/- Direct evaluation: the types that a term binds. -/
set_option linter.unusedSimpArgs false
set_option linter.unusedVariables false
set_option maxRecDepth 20000
set_option maxHeartbeats 4000000
namespace Go.Proofs.YtkoachnlimebaaaGreatDoor
open Go.AL

/-- What the machine's functions may rely on of a term. -/
structure AppOk (p : ProgG) (V L : Bytes → Bool) (t : TermG) : Prop where
  pr : progB p = true
  va : validT p.ds (pfs p.fs) V L t = true
  ap : isApp t
theorem AppOk.nd {p : ProgG} {V L : Bytes → Bool} {t : TermG} (h : AppOk p V L t) : nodeB p.ds (pfs p.fs) V L t = true := u_node h.va
/-- The xtor that a constructor or destructor names. -/
theorem app_xtor {p : ProgG} {V L : Bytes → Bool} {t : TermG} (hn : nodeB p.ds (pfs p.fs) V L t = true) (ho : t.op = 4 ∨ t.op = 6) :
    ∃ d x, 1 ≤ t.ty ∧ t.ty ≤ p.ds.length ∧ p.ds[(t.ty - 1).toNat]? = some d ∧ 0 ≤ t.n ∧ t.n < d.xtors.length ∧ d.xtors[t.n.toNat]? = some x ∧ xtorAt p.ds t.ty t.n = x := by
  have hh : hasN p.ds t.ty t.n = true := by
    rcases ho with o | o <;> simp [nodeB, o] at hn <;> exact hn.1.1.1.2
  have h0 := hh
  simp only [hasN, Bool.and_eq_true, decide_eq_true_eq] at hh
  obtain ⟨d, hd⟩ := someAt p.ds (t.ty - 1).toNat (by omega)
  have hxs : xtorsOf p.ds t.ty = d.xtors := by simp only [xtorsOf, hd, Option.map_some, Option.getD_some]
  rw [hxs] at hh
  obtain ⟨x, hx⟩ := someAt d.xtors t.n.toNat (by omega)
  exact ⟨d, x, by omega, by omega, hd, by omega, by omega, hx, by rw [xtorAt, hxs, hx]; rfl⟩
theorem types_calls (b : Nat) (p : ProgG) (fuel : Int) (s : MS) (t : TermG) {V L : Bytes → Bool} (ok : AppOk p V L t) (hp : Hp) (hb : hp.blk b = some (75, s.cs p fuel)) :
    ACalls Tryz.prog 133 [ptr0 b, t.av] hp (fun r hp' => ∃ h, r = intsAV h (typesG p.ds p.fs t) ∧ hp' = hp) := by
  have hpr := runp_ok ok.pr
  have hdl := hpr.hdl
  have hn := ok.nd
  have hb0 := hb
  simp only [MS.cs] at hb
  refine acalls_addNil 3 1 ?_
  refine acalls_of Tryz.func133 rfl (by decide +kernel) (awp_sound (mu := []) _ _ _ ?_)
  simp only [go_sem, Nat.reduceEqDiff, Nat.reduceAdd, Nat.reduceSub, Nat.reduceLT, Nat.reduceBEq, Nat.reduceLeDiff, ↓reduceIte, Int.reduceToNat, Int.reduceLE, Int.reduceLT, Int.reduceEq, reduceCtorEq, TermG.av, TermG.cs_eq, ptr0]
  intro q
  have conX : (t.op = 4 ∨ t.op = 6) → typesG p.ds p.fs t = prodsX (xtorAt p.ds t.ty t.n) := fun o => by rw [typesG, if_pos o]
  rcases ok.ap with o | o | o | o | o
  · simp only [go_sem, Nat.reduceEqDiff, Nat.reduceAdd, Nat.reduceSub, Nat.reduceLT, Nat.reduceBEq, Nat.reduceLeDiff, ↓reduceIte, Int.reduceToNat, Int.reduceLE, Int.reduceLT, Int.reduceEq, reduceCtorEq, o, decide_false, decide_true]
    refine ⟨rfl, by simp, fun hd => ?_⟩
    refine ret_le (Hp.le_trans (Hp.le_addSp _ (3, 1, .slice none 0 0)) (Hp.le_addSp _ (3, 1, hd))) ⟨hd, by simp [typesG, o, intsAV, iv], rfl⟩
  · obtain ⟨d, x, ht1, ht2, hd, hn0, hn1, hx, hxa⟩ := app_xtor hn (.inl o)
    have hwt : IntKind.i64.wrap (t.ty - 1) = t.ty - 1 := IntWalk.i64_in _ (by omega)
    have hxl := hpr.hsm d (List.mem_of_getElem? hd) x (List.mem_of_getElem? hx)
    simp only [go_sem, Nat.reduceEqDiff, Nat.reduceAdd, Nat.reduceSub, Nat.reduceLT, Nat.reduceBEq, Nat.reduceLeDiff, ↓reduceIte, Int.reduceToNat, Int.reduceLE, Int.reduceLT, Int.reduceEq, reduceCtorEq, o, decide_false, decide_true]
    refine draw_by (mu := []) (fun h => h.blk b = some (75, s.cs p fuel)) (.take 0 (.take 1 (.take 2 (.take 3 (.take 4 (.take 5 (.take 6 (.take 7 (.take 8 (.take 9 (.take 10 (.take 11 (.take 12 (.take 13 (.take 14 (.take 15 (.take 16 (.take 17 (.done))))))))))))))))))) (by decide +kernel) hb0 (by decide +kernel) (by decide +kernel) ?_
    simp only [go_sem, Nat.reduceEqDiff, Nat.reduceAdd, Nat.reduceSub, Nat.reduceLT, Nat.reduceBEq, Nat.reduceLeDiff, ↓reduceIte, Int.reduceToNat, Int.reduceLE, Int.reduceLT, Int.reduceEq, reduceCtorEq, hb, hwt, mapAt DeclG.av _ _ _ hd, DeclG.av, DeclG.cs, mapAt XtorG.av _ _ _ hx, XtorG.av, XtorG.cs]
    refine ⟨fun h e => by rw [e]; simp only [go_sem, Nat.reduceEqDiff, Nat.reduceAdd, Nat.reduceSub, Nat.reduceLT, Nat.reduceBEq, Nat.reduceLeDiff, ↓reduceIte, Int.reduceToNat, Int.reduceLE, Int.reduceLT, Int.reduceEq, reduceCtorEq, MS.cs], by omega, fun _ _ => by omega, hn0, fun _ _ => hn0, ?_⟩
    refine aw_loopX 77 (fun y : Nat × Value => [(5, intsAV y.2 (((x.args.take y.1).filter fun a => !a.co).map ArgG.typ)), (30, .lst 2 x.h (x.args.map ArgG.av)), (31, .v (.int .i64 x.args.length)), (32, .v (.int .i64 y.1))])
      (fun y => hp.setSp ((3, 1, y.2) :: hp.sp)) (fun y => y.1 ≤ x.args.length) (fun y => x.args.length - y.1) (0, .slice none 0 0) (Nat.zero_le _) (le_of_cast rfl (Hp.le_refl _) (by simp [go_sem, Cast.refl, intsAV]; exact Cast.nil 1)) ?_
    rintro ⟨k, h3⟩ hk
    simp only at hk
    refine awp_sound (mu := []) _ _ _ ?_
    simp only [go_sem, Nat.reduceEqDiff, Nat.reduceAdd, Nat.reduceSub, Nat.reduceLT, Nat.reduceBEq, Nat.reduceLeDiff, ↓reduceIte, Int.reduceToNat, Int.reduceLE, Int.reduceLT, Int.reduceEq, reduceCtorEq, intsAV]
    refine brK_mk (fun h1 => ?_) (fun h1 => ?_) <;> simp only [go_sem, Nat.reduceEqDiff, Nat.reduceAdd, Nat.reduceSub, Nat.reduceLT, Nat.reduceBEq, Nat.reduceLeDiff, ↓reduceIte, Int.reduceToNat, Int.reduceLE, Int.reduceLT, Int.reduceEq, reduceCtorEq, h1]
    · have hk' : k < x.args.length := by simpa using h1
      obtain ⟨a, ha⟩ := someAt x.args k hk'
      have hwu : IntKind.i64.wrap ((k : Int) + 1) = ((k + 1 : Nat) : Int) := IntWalk.i64_in _ (by omega)
      have hta : x.args.take (k + 1) = x.args.take k ++ [a] := by rw [List.take_add_one, ha]; rfl
      have hle : ((x.args.take k).filter fun a => !a.co).length ≤ 6 := Nat.le_trans (List.length_filter_le _ _) (by simp; omega)
      simp only [go_sem, Nat.reduceEqDiff, Nat.reduceAdd, Nat.reduceSub, Nat.reduceLT, Nat.reduceBEq, Nat.reduceLeDiff, ↓reduceIte, Int.reduceToNat, Int.reduceLE, Int.reduceLT, Int.reduceEq, reduceCtorEq, mapAt ArgG.av _ _ _ ha, ArgG.av, ArgG.cs]
      intro v hv
      have hds := fun T cs => Hp.del_set _ _ T cs hv.1
      cases hco : a.co with
      | true =>
        simp only [go_sem, Nat.reduceEqDiff, Nat.reduceAdd, Nat.reduceSub, Nat.reduceLT, Nat.reduceBEq, Nat.reduceLeDiff, ↓reduceIte, Int.reduceToNat, Int.reduceLE, Int.reduceLT, Int.reduceEq, reduceCtorEq, hds, hwu]
        exact ⟨(k + 1, h3), by simp only; omega, by simp only; omega, le_mkSl rfl (Hp.le_refl _) (by rw [hta]; simp [go_sem, hwu, hco, intsAV])⟩
      | false =>
        simp only [go_sem, Nat.reduceEqDiff, Nat.reduceAdd, Nat.reduceSub, Nat.reduceLT, Nat.reduceBEq, Nat.reduceLeDiff, ↓reduceIte, Int.reduceToNat, Int.reduceLE, Int.reduceLT, Int.reduceEq, reduceCtorEq, hds]
        refine ⟨rfl, by simp, fun hd => ?_⟩
        refine append_by (a := intsAV h3 (((x.args.take k).filter fun a => !a.co).map ArgG.typ)) (b := .lst 1 hd [iv a.typ]) (l1 := [(3, 1, hd)]) (l2 := hp.sp) (h := h3) (h2 := hd) Tryz.k26 Tryz.s3 Tryz.y3 Tryz.z3 rfl (by decide)
          (by simp [go_sem, intsAV]) (Cast.refl _) (by simp [go_sem, iv]) (Cast.refl _) (by simp [go_sem]) (by simp [go_sem, iv]) (by simp [maxLen]; omega) (by simp; omega) (by simp [go_sem]) (fun h' => ?_)
        simp only [go_sem, Nat.reduceEqDiff, Nat.reduceAdd, Nat.reduceSub, Nat.reduceLT, Nat.reduceBEq, Nat.reduceLeDiff, ↓reduceIte, Int.reduceToNat, Int.reduceLE, Int.reduceLT, Int.reduceEq, reduceCtorEq, hwu]
        exact ⟨(k + 1, h'), by simp only; omega, by simp only; omega, le_mkSl rfl ⟨fun _ _ h => h, fun _ _ h => h, List.sublist_cons_self _ _, fun _ h => h⟩ (by rw [hta]; simp [go_sem, hwu, hco, intsAV])⟩
    · have e : k = x.args.length := by simp at h1; omega
      subst e
      rw [List.take_length]
      refine ret_le (Hp.le_addSp _ _) ⟨h3, ?_, rfl⟩
      rw [conX (.inl o), hxa]; rfl
  · obtain ⟨d, x, ht1, ht2, hd, hn0, hn1, hx, hxa⟩ := app_xtor hn (.inr o)
    have hwt : IntKind.i64.wrap (t.ty - 1) = t.ty - 1 := IntWalk.i64_in _ (by omega)
    have hxl := hpr.hsm d (List.mem_of_getElem? hd) x (List.mem_of_getElem? hx)
    simp only [go_sem, Nat.reduceEqDiff, Nat.reduceAdd, Nat.reduceSub, Nat.reduceLT, Nat.reduceBEq, Nat.reduceLeDiff, ↓reduceIte, Int.reduceToNat, Int.reduceLE, Int.reduceLT, Int.reduceEq, reduceCtorEq, o, decide_false, decide_true]
    refine draw_by (mu := []) (fun h => h.blk b = some (75, s.cs p fuel)) (.take 0 (.take 1 (.take 2 (.take 3 (.take 4 (.take 5 (.take 6 (.take 7 (.take 8 (.take 9 (.take 10 (.take 11 (.take 12 (.take 13 (.take 14 (.take 15 (.take 16 (.take 17 (.done))))))))))))))))))) (by decide +kernel) hb0 (by decide +kernel) (by decide +kernel) ?_
    simp only [go_sem, Nat.reduceEqDiff, Nat.reduceAdd, Nat.reduceSub, Nat.reduceLT, Nat.reduceBEq, Nat.reduceLeDiff, ↓reduceIte, Int.reduceToNat, Int.reduceLE, Int.reduceLT, Int.reduceEq, reduceCtorEq, hb, hwt, mapAt DeclG.av _ _ _ hd, DeclG.av, DeclG.cs, mapAt XtorG.av _ _ _ hx, XtorG.av, XtorG.cs]
    refine ⟨fun h e => by rw [e]; simp only [go_sem, Nat.reduceEqDiff, Nat.reduceAdd, Nat.reduceSub, Nat.reduceLT, Nat.reduceBEq, Nat.reduceLeDiff, ↓reduceIte, Int.reduceToNat, Int.reduceLE, Int.reduceLT, Int.reduceEq, reduceCtorEq, MS.cs], by omega, fun _ _ => by omega, hn0, fun _ _ => hn0, ?_⟩
    refine aw_loopX 77 (fun y : Nat × Value => [(5, intsAV y.2 (((x.args.take y.1).filter fun a => !a.co).map ArgG.typ)), (30, .lst 2 x.h (x.args.map ArgG.av)), (31, .v (.int .i64 x.args.length)), (32, .v (.int .i64 y.1))])
      (fun y => hp.setSp ((3, 1, y.2) :: hp.sp)) (fun y => y.1 ≤ x.args.length) (fun y => x.args.length - y.1) (0, .slice none 0 0) (Nat.zero_le _) (le_of_cast rfl (Hp.le_refl _) (by simp [go_sem, Cast.refl, intsAV]; exact Cast.nil 1)) ?_
    rintro ⟨k, h3⟩ hk
    simp only at hk
    refine awp_sound (mu := []) _ _ _ ?_
    simp only [go_sem, Nat.reduceEqDiff, Nat.reduceAdd, Nat.reduceSub, Nat.reduceLT, Nat.reduceBEq, Nat.reduceLeDiff, ↓reduceIte, Int.reduceToNat, Int.reduceLE, Int.reduceLT, Int.reduceEq, reduceCtorEq, intsAV]
    refine brK_mk (fun h1 => ?_) (fun h1 => ?_) <;> simp only [go_sem, Nat.reduceEqDiff, Nat.reduceAdd, Nat.reduceSub, Nat.reduceLT, Nat.reduceBEq, Nat.reduceLeDiff, ↓reduceIte, Int.reduceToNat, Int.reduceLE, Int.reduceLT, Int.reduceEq, reduceCtorEq, h1]
    · have hk' : k < x.args.length := by simpa using h1
      obtain ⟨a, ha⟩ := someAt x.args k hk'
      have hwu : IntKind.i64.wrap ((k : Int) + 1) = ((k + 1 : Nat) : Int) := IntWalk.i64_in _ (by omega)
      have hta : x.args.take (k + 1) = x.args.take k ++ [a] := by rw [List.take_add_one, ha]; rfl
      have hle : ((x.args.take k).filter fun a => !a.co).length ≤ 6 := Nat.le_trans (List.length_filter_le _ _) (by simp; omega)
      simp only [go_sem, Nat.reduceEqDiff, Nat.reduceAdd, Nat.reduceSub, Nat.reduceLT, Nat.reduceBEq, Nat.reduceLeDiff, ↓reduceIte, Int.reduceToNat, Int.reduceLE, Int.reduceLT, Int.reduceEq, reduceCtorEq, mapAt ArgG.av _ _ _ ha, ArgG.av, ArgG.cs]
      intro v hv
      have hds := fun T cs => Hp.del_set _ _ T cs hv.1
      cases hco : a.co with
      | true =>
        simp only [go_sem, Nat.reduceEqDiff, Nat.reduceAdd, Nat.reduceSub, Nat.reduceLT, Nat.reduceBEq, Nat.reduceLeDiff, ↓reduceIte, Int.reduceToNat, Int.reduceLE, Int.reduceLT, Int.reduceEq, reduceCtorEq, hds, hwu]
        exact ⟨(k + 1, h3), by simp only; omega, by simp only; omega, le_mkSl rfl (Hp.le_refl _) (by rw [hta]; simp [go_sem, hwu, hco, intsAV])⟩
      | false =>
        simp only [go_sem, Nat.reduceEqDiff, Nat.reduceAdd, Nat.reduceSub, Nat.reduceLT, Nat.reduceBEq, Nat.reduceLeDiff, ↓reduceIte, Int.reduceToNat, Int.reduceLE, Int.reduceLT, Int.reduceEq, reduceCtorEq, hds]
        refine ⟨rfl, by simp, fun hd => ?_⟩
        refine append_by (a := intsAV h3 (((x.args.take k).filter fun a => !a.co).map ArgG.typ)) (b := .lst 1 hd [iv a.typ]) (l1 := [(3, 1, hd)]) (l2 := hp.sp) (h := h3) (h2 := hd) Tryz.k26 Tryz.s3 Tryz.y3 Tryz.z3 rfl (by decide)
          (by simp [go_sem, intsAV]) (Cast.refl _) (by simp [go_sem, iv]) (Cast.refl _) (by simp [go_sem]) (by simp [go_sem, iv]) (by simp [maxLen]; omega) (by simp; omega) (by simp [go_sem]) (fun h' => ?_)
        simp only [go_sem, Nat.reduceEqDiff, Nat.reduceAdd, Nat.reduceSub, Nat.reduceLT, Nat.reduceBEq, Nat.reduceLeDiff, ↓reduceIte, Int.reduceToNat, Int.reduceLE, Int.reduceLT, Int.reduceEq, reduceCtorEq, hwu]
        exact ⟨(k + 1, h'), by simp only; omega, by simp only; omega, le_mkSl rfl ⟨fun _ _ h => h, fun _ _ h => h, List.sublist_cons_self _ _, fun _ h => h⟩ (by rw [hta]; simp [go_sem, hwu, hco, intsAV])⟩
    · have e : k = x.args.length := by simp at h1; omega
      subst e
      rw [List.take_length]
      refine ret_le (Hp.le_addSp _ _) ⟨h3, ?_, rfl⟩
      rw [conX (.inr o), hxa]; rfl
  · simp only [go_sem, Nat.reduceEqDiff, Nat.reduceAdd, Nat.reduceSub, Nat.reduceLT, Nat.reduceBEq, Nat.reduceLeDiff, ↓reduceIte, Int.reduceToNat, Int.reduceLE, Int.reduceLT, Int.reduceEq, reduceCtorEq, o, decide_false, decide_true]
    refine ⟨rfl, by simp, fun hd => ?_⟩
    refine ret_le (Hp.le_trans (Hp.le_addSp _ (3, 1, .slice none 0 0)) (Hp.le_addSp _ (3, 1, hd))) ⟨hd, by simp [typesG, o, intsAV, iv], rfl⟩
  · obtain ⟨f, hf, hfl⟩ := (node_arity hn ok.ap).2.2.2 o
    have hn0 : 0 ≤ t.n := by simp [nodeB, o] at hn; omega
    have hfp := hpr.hfp f (List.mem_of_getElem? hf)
    have hty : typesG p.ds p.fs t = f.params.map ParamG.ty := by simp [typesG, o, hf]
    simp only [go_sem, Nat.reduceEqDiff, Nat.reduceAdd, Nat.reduceSub, Nat.reduceLT, Nat.reduceBEq, Nat.reduceLeDiff, ↓reduceIte, Int.reduceToNat, Int.reduceLE, Int.reduceLT, Int.reduceEq, reduceCtorEq, o, decide_false, decide_true]
    refine draw_by (mu := []) (fun h => h.blk b = some (75, s.cs p fuel)) (.take 0 (.take 1 (.take 2 (.take 3 (.take 4 (.take 5 (.take 6 (.take 7 (.take 8 (.take 9 (.take 10 (.take 11 (.done))))))))))))) (by decide +kernel) hb0 (by decide +kernel) (by decide +kernel) ?_
    simp only [go_sem, Nat.reduceEqDiff, Nat.reduceAdd, Nat.reduceSub, Nat.reduceLT, Nat.reduceBEq, Nat.reduceLeDiff, ↓reduceIte, Int.reduceToNat, Int.reduceLE, Int.reduceLT, Int.reduceEq, reduceCtorEq, hb, mapAt FunG.av _ _ _ hf, FunG.av, FunG.cs, paramsAV]
    refine ⟨fun h e => by rw [e]; simp only [go_sem, Nat.reduceEqDiff, Nat.reduceAdd, Nat.reduceSub, Nat.reduceLT, Nat.reduceBEq, Nat.reduceLeDiff, ↓reduceIte, Int.reduceToNat, Int.reduceLE, Int.reduceLT, Int.reduceEq, reduceCtorEq, MS.cs], hn0, fun _ _ => hn0, ?_⟩
    refine aw_loopX 77 (fun y : Nat × Value => [(5, intsAV y.2 ((f.params.take y.1).map ParamG.ty)), (56, .lst 2 f.hp (f.params.map ParamG.av)), (57, .v (.int .i64 f.params.length)), (58, .v (.int .i64 y.1))])
      (fun y => hp.setSp ((3, 1, y.2) :: hp.sp)) (fun y => y.1 ≤ f.params.length) (fun y => f.params.length - y.1) (0, .slice none 0 0) (Nat.zero_le _) (le_of_cast rfl (Hp.le_refl _) (by simp [go_sem, Cast.refl, intsAV]; exact Cast.nil 1)) ?_
    rintro ⟨k, h3⟩ hk
    simp only at hk
    refine awp_sound (mu := []) _ _ _ ?_
    simp only [go_sem, Nat.reduceEqDiff, Nat.reduceAdd, Nat.reduceSub, Nat.reduceLT, Nat.reduceBEq, Nat.reduceLeDiff, ↓reduceIte, Int.reduceToNat, Int.reduceLE, Int.reduceLT, Int.reduceEq, reduceCtorEq, intsAV]
    refine brK_mk (fun h1 => ?_) (fun h1 => ?_) <;> simp only [go_sem, Nat.reduceEqDiff, Nat.reduceAdd, Nat.reduceSub, Nat.reduceLT, Nat.reduceBEq, Nat.reduceLeDiff, ↓reduceIte, Int.reduceToNat, Int.reduceLE, Int.reduceLT, Int.reduceEq, reduceCtorEq, h1]
    · have hk' : k < f.params.length := by simpa using h1
      obtain ⟨a, ha⟩ := someAt f.params k hk'
      have hwu : IntKind.i64.wrap ((k : Int) + 1) = ((k + 1 : Nat) : Int) := IntWalk.i64_in _ (by omega)
      have hta : f.params.take (k + 1) = f.params.take k ++ [a] := by rw [List.take_add_one, ha]; rfl
      simp only [go_sem, Nat.reduceEqDiff, Nat.reduceAdd, Nat.reduceSub, Nat.reduceLT, Nat.reduceBEq, Nat.reduceLeDiff, ↓reduceIte, Int.reduceToNat, Int.reduceLE, Int.reduceLT, Int.reduceEq, reduceCtorEq, mapAt ParamG.av _ _ _ ha, ParamG.av, ParamG.cs]
      intro v hv
      have hds := fun T cs => Hp.del_set _ _ T cs hv.1
      simp only [go_sem, Nat.reduceEqDiff, Nat.reduceAdd, Nat.reduceSub, Nat.reduceLT, Nat.reduceBEq, Nat.reduceLeDiff, ↓reduceIte, Int.reduceToNat, Int.reduceLE, Int.reduceLT, Int.reduceEq, reduceCtorEq, hds]
      refine ⟨rfl, by simp, fun hd => ?_⟩
      refine append_by (a := intsAV h3 ((f.params.take k).map ParamG.ty)) (b := .lst 1 hd [iv a.ty]) (l1 := [(3, 1, hd)]) (l2 := hp.sp) (h := h3) (h2 := hd) Tryz.k26 Tryz.s3 Tryz.y3 Tryz.z3 rfl (by decide)
        (by simp [go_sem, intsAV]) (Cast.refl _) (by simp [go_sem, iv]) (Cast.refl _) (by simp [go_sem]) (by simp [go_sem, iv]) (by simp [maxLen]; omega) (by simp; omega) (by simp [go_sem]) (fun h' => ?_)
      simp only [go_sem, Nat.reduceEqDiff, Nat.reduceAdd, Nat.reduceSub, Nat.reduceLT, Nat.reduceBEq, Nat.reduceLeDiff, ↓reduceIte, Int.reduceToNat, Int.reduceLE, Int.reduceLT, Int.reduceEq, reduceCtorEq, hwu]
      exact ⟨(k + 1, h'), by simp only; omega, by simp only; omega, le_mkSl rfl ⟨fun _ _ h => h, fun _ _ h => h, List.sublist_cons_self _ _, fun _ h => h⟩ (by rw [hta]; simp [go_sem, hwu, intsAV])⟩
    · have e : k = f.params.length := by simp at h1; omega
      subst e
      rw [List.take_length]
      refine ret_le (Hp.le_addSp _ _) ⟨h3, ?_, rfl⟩
      rw [hty]
end Go.Proofs.YtkoachnlimebaaaGreatDoor
/- Direct evaluation: an application whose arguments are bound. -/
set_option linter.unusedSimpArgs false
set_option linter.unusedVariables false
set_option maxRecDepth 20000
set_option maxHeartbeats 4000000
namespace Go.Proofs.YtkoachnlimebaaaGreatDoor
open Go.AL

/-- The machine goes on: what is next is another, the rest is gs it was. -/
def MvR (p : ProgG) (fuel : Int) (b : Nat) (hp : Hp) (s : MS) (c : Ctl) (r : AV) (hp' : Hp) : Prop :=
  r = .tup [] ∧ ∃ s' : MS, hp' = hp.setBlk b 75 (s'.cs p fuel) ∧ s'.how = s.how ∧ s'.val = s.val ∧ s'.oh = s.oh ∧ s'.outs = s.outs ∧ s'.steps = s.steps ∧ s'.over = s.over ∧ CtlP c s'
theorem bindG_step {e : EnvG} {names : List Bytes} {l : List BndG} {k : Nat} {s : Bytes} {bd : BndG} (hs : names[k]? = some s) (hb : l[k]? = some bd) : bindG e (names.drop k) (l.drop k) = bindG (.var s bd e) (names.drop (k + 1)) (l.drop (k + 1)) := by
  obtain ⟨h1, h2⟩ := List.getElem?_eq_some_iff.1 hs
  obtain ⟨h3, h4⟩ := List.getElem?_eq_some_iff.1 hb
  rw [List.drop_eq_getElem_cons h1, List.drop_eq_getElem_cons h3, bindG, h2, h4]
theorem ms_fz (hp : Hp) (b : Nat) (T : TypeId) (cs : List AV) : (hp.setBlk b T cs).blk b = some (T, cs) := by simp [Hp.setBlk]

theorem perform_calls (b : Nat) (p : ProgG) (fuel : Int) (s : MS) (t : TermG) {V L : Bytes → Bool} (ok : AppOk p V L t) {e : EnvG} {ea : AV} (he : PE e ea) {got : List BndG} (h : Value) {gs : List AV} (hg : PBs got gs) {k : FrmG} {ka : AV} (hk : PK k ka)
    (hl : got.length = (typesG p.ds p.fs t).length) (hi : t.op = 2 → ∀ b, b ∈ got → isIntB b = true) (hp : Hp) (hb : hp.blk b = some (75, s.cs p fuel)) :
    ACalls Tryz.prog 135 [ptr0 b, t.av, ea, .lst 2 h gs, ka] hp (MvR p fuel b hp s (performG p.fs t e got k)) := by
  have hpr := runp_ok ok.pr
  have hn := ok.nd
  have hb0 := hb
  simp only [MS.cs] at hb
  obtain ⟨n1, n2, n3, n4⟩ := node_arity hn ok.ap
  have hal := hg.len
  refine acalls_of Tryz.func135 rfl (by decide +kernel) (awp_sound (mu := []) _ _ _ ?_)
  simp only [go_sem, Nat.reduceEqDiff, Nat.reduceAdd, Nat.reduceSub, Nat.reduceLT, Nat.reduceMul, Nat.reduceBEq, Nat.reduceLeDiff, ↓reduceIte, Int.reduceToNat, Nat.reduceGT, Int.reduceLE, Int.reduceLT, Int.reduceGE, Int.reduceGT, Int.reduceEq, Int.reduceNe, reduceCtorEq, TermG.av, TermG.cs_eq, ptr0]
  intro q
  have ea1 := ((AV.cells.eq_1 _).symm.trans he.o.cells); have ea2 := he.o.one; have ka1 := ((AV.cells.eq_1 _).symm.trans hk.o.cells); have ka2 := hk.o.one
  rcases ok.ap with o | o | o | o | o
  · -- a primitive operation
    have hi := hi o
    simp [typesG, o] at hl
    match got, hl with
    | [g0, g1], _ =>
    have i0 := hi g0 (by simp)
    have i1 := hi g1 (by simp)
    match g0, g1, i0, i1 with
    | .val (.int x), .val (.int y), _, _ =>
    cases hg with | cons _ a0 c0 _ r0 p0 hg =>
    cases hg with | cons _ a1 c1 _ r1 p1 hg =>
    cases hg
    cases p0 with | val _ _ v0 =>
    cases p1 with | val _ _ v1 =>
    cases v0
    cases v1
    simp only [go_sem, Nat.reduceEqDiff, Nat.reduceAdd, Nat.reduceSub, Nat.reduceLT, Nat.reduceMul, Nat.reduceBEq, Nat.reduceLeDiff, ↓reduceIte, Int.reduceToNat, Nat.reduceGT, Int.reduceLE, Int.reduceLT, Int.reduceGE, Int.reduceGT, Int.reduceEq, Int.reduceNe, reduceCtorEq, o, decide_eq_true_eq, decide_true]
    refine draw_by (mu := []) (fun _ => True) (.take 0 (.take 1 (.take 2 (.take 3 (.take 4 (.take 5 (.take 6 (.take 8 (.take 9 (.take 10 (.take 11 (.take 15 (.br 7 (.br 12 (.br 13 (.take 14 (.br 16 (.done) (.stop))) (.stop)) (.stop)) (.br 12 (.br 7 (.br 13 (.take 14 (.br 16 (.done) (.stop))) (.stop)) (.stop)) (.stop))))))))))))))) (by decide +kernel) trivial (by decide +kernel) (by decide +kernel) ?_
    simp only [go_sem, Nat.reduceEqDiff, Nat.reduceAdd, Nat.reduceSub, Nat.reduceLT, Nat.reduceMul, Nat.reduceBEq, Nat.reduceLeDiff, ↓reduceIte, Int.reduceToNat, Nat.reduceGT, Int.reduceLE, Int.reduceLT, Int.reduceGE, Int.reduceGT, Int.reduceEq, Int.reduceNe, reduceCtorEq]
    refine ⟨?_, ?_⟩
    · refine assertOne_by (a := .v (.int .i64 x)) (by decide +kernel) (by simp [go_sem]) (by simp [go_sem]) ?_
      simp only [go_sem, Nat.reduceEqDiff, Nat.reduceAdd, Nat.reduceSub, Nat.reduceLT, Nat.reduceMul, Nat.reduceBEq, Nat.reduceLeDiff, ↓reduceIte, Int.reduceToNat, Nat.reduceGT, Int.reduceLE, Int.reduceLT, Int.reduceGE, Int.reduceGT, Int.reduceEq, Int.reduceNe, reduceCtorEq]
      refine assertOne_by (a := .v (.int .i64 y)) (by decide +kernel) (by simp [go_sem]) (by simp [go_sem]) ?_
      simp only [go_sem, Nat.reduceEqDiff, Nat.reduceAdd, Nat.reduceSub, Nat.reduceLT, Nat.reduceMul, Nat.reduceBEq, Nat.reduceLeDiff, ↓reduceIte, Int.reduceToNat, Nat.reduceGT, Int.reduceLE, Int.reduceLT, Int.reduceGE, Int.reduceGT, Int.reduceEq, Int.reduceNe, reduceCtorEq]
      refine callX_by (prim_calls t.n x y _) ?_
      rintro r hp1 ⟨rfl, rfl⟩
      simp only [go_sem, Nat.reduceEqDiff, Nat.reduceAdd, Nat.reduceSub, Nat.reduceLT, Nat.reduceMul, Nat.reduceBEq, Nat.reduceLeDiff, ↓reduceIte, Int.reduceToNat, Nat.reduceGT, Int.reduceLE, Int.reduceLT, Int.reduceGE, Int.reduceGT, Int.reduceEq, Int.reduceNe, reduceCtorEq]
      have c := mgive_calls b p fuel s (.ifc 3 (.v (.int .i64 (primG t.n x y)))) ka ⟨rfl, rfl⟩ hk.o hp1 hb0
      simp only [ptr0] at c
      refine callX_by c ?_
      clear c
      rintro r hp2 ⟨rfl, rfl⟩
      refine ret_same ⟨rfl, _, rfl, rfl, rfl, rfl, rfl, rfl, rfl, ?_⟩
      unfold performG; rw [if_pos o]
      exact ⟨rfl, .int _, hk⟩
    · refine assertOne_by (a := .v (.int .i64 y)) (by decide +kernel) (by simp [go_sem]) (by simp [go_sem]) ?_
      simp only [go_sem, Nat.reduceEqDiff, Nat.reduceAdd, Nat.reduceSub, Nat.reduceLT, Nat.reduceMul, Nat.reduceBEq, Nat.reduceLeDiff, ↓reduceIte, Int.reduceToNat, Nat.reduceGT, Int.reduceLE, Int.reduceLT, Int.reduceGE, Int.reduceGT, Int.reduceEq, Int.reduceNe, reduceCtorEq]
      refine assertOne_by (a := .v (.int .i64 x)) (by decide +kernel) (by simp [go_sem]) (by simp [go_sem]) ?_
      simp only [go_sem, Nat.reduceEqDiff, Nat.reduceAdd, Nat.reduceSub, Nat.reduceLT, Nat.reduceMul, Nat.reduceBEq, Nat.reduceLeDiff, ↓reduceIte, Int.reduceToNat, Nat.reduceGT, Int.reduceLE, Int.reduceLT, Int.reduceGE, Int.reduceGT, Int.reduceEq, Int.reduceNe, reduceCtorEq]
      refine callX_by (prim_calls t.n x y _) ?_
      rintro r hp1 ⟨rfl, rfl⟩
      simp only [go_sem, Nat.reduceEqDiff, Nat.reduceAdd, Nat.reduceSub, Nat.reduceLT, Nat.reduceMul, Nat.reduceBEq, Nat.reduceLeDiff, ↓reduceIte, Int.reduceToNat, Nat.reduceGT, Int.reduceLE, Int.reduceLT, Int.reduceGE, Int.reduceGT, Int.reduceEq, Int.reduceNe, reduceCtorEq]
      have c := mgive_calls b p fuel s (.ifc 3 (.v (.int .i64 (primG t.n x y)))) ka ⟨rfl, rfl⟩ hk.o hp1 hb0
      simp only [ptr0] at c
      refine callX_by c ?_
      clear c
      rintro r hp2 ⟨rfl, rfl⟩
      refine ret_same ⟨rfl, _, rfl, rfl, rfl, rfl, rfl, rfl, rfl, ?_⟩
      unfold performG; rw [if_pos o]
      exact ⟨rfl, .int _, hk⟩
  · -- a constructor
    simp only [go_sem, Nat.reduceEqDiff, Nat.reduceAdd, Nat.reduceSub, Nat.reduceLT, Nat.reduceMul, Nat.reduceBEq, Nat.reduceLeDiff, ↓reduceIte, Int.reduceToNat, Nat.reduceGT, Int.reduceLE, Int.reduceLT, Int.reduceGE, Int.reduceGT, Int.reduceEq, Int.reduceNe, reduceCtorEq, o, decide_false, decide_true]
    have c := mgive_calls b p fuel s (.ifc 252 (.agg [.v (.int .i64 t.ty), .v (.int .i64 t.n), .lst 2 h gs])) ka ⟨rfl, rfl⟩ hk.o hp hb0
    simp only [ptr0] at c
    refine callX_by c ?_
    clear c
    rintro r hp2 ⟨rfl, rfl⟩
    simp only [go_sem, Nat.reduceEqDiff, Nat.reduceAdd, Nat.reduceSub, Nat.reduceLT, Nat.reduceMul, Nat.reduceBEq, Nat.reduceLeDiff, ↓reduceIte, Int.reduceToNat, Nat.reduceGT, Int.reduceLE, Int.reduceLT, Int.reduceGE, Int.reduceGT, Int.reduceEq, Int.reduceNe, reduceCtorEq]
    refine ret_same ⟨rfl, _, rfl, rfl, rfl, rfl, rfl, rfl, rfl, ?_⟩
    unfold performG; rw [if_neg (by omega), if_pos o]
    exact ⟨rfl, .con _ _ _ _ _ hg, hk⟩
  · -- a destructor
    obtain ⟨d, x, ht1, ht2, hd, hn0, hn1, hx, hxa⟩ := app_xtor hn (.inr o)
    have hxl := hpr.hsm d (List.mem_of_getElem? hd) x (List.mem_of_getElem? hx)
    have hl6 : (typesG p.ds p.fs t).length ≤ 6 := by
      rw [typesG, if_pos (.inr o), hxa]
      exact Nat.le_trans (by rw [prodsX, List.length_map]; exact List.length_filter_le _ _) hxl
    have h6 := n2 o
    obtain ⟨a, ha⟩ := someAt t.args (typesG p.ds p.fs t).length (by omega)
    have hwl : IntKind.i64.wrap ((t.args.length : Int) - 1) = ((typesG p.ds p.fs t).length : Int) := by rw [IntWalk.i64_in _ (by omega)]; omega
    simp only [go_sem, Nat.reduceEqDiff, Nat.reduceAdd, Nat.reduceSub, Nat.reduceLT, Nat.reduceMul, Nat.reduceBEq, Nat.reduceLeDiff, ↓reduceIte, Int.reduceToNat, Nat.reduceGT, Int.reduceLE, Int.reduceLT, Int.reduceGE, Int.reduceGT, Int.reduceEq, Int.reduceNe, reduceCtorEq, o, decide_false, decide_true]
    refine draw_by (mu := []) (fun _ => True) (.take 0 (.take 1 (.take 2 (.take 3 (.take 4 (.take 5 (.take 6 (.take 7 (.take 8 (.take 9 (.take 12 (.take 13 (.take 14 (.take 15 (.br 10 (.take 11 (.br 16 (.br 17 (.br 18 (.done) (.stop)) (.stop)) (.stop))) (.stop)))))))))))))))) (by decide +kernel) trivial (by decide +kernel) (by decide +kernel) ?_
    simp only [go_sem, Nat.reduceEqDiff, Nat.reduceAdd, Nat.reduceSub, Nat.reduceLT, Nat.reduceMul, Nat.reduceBEq, Nat.reduceLeDiff, ↓reduceIte, Int.reduceToNat, Nat.reduceGT, Int.reduceLE, Int.reduceLT, Int.reduceGE, Int.reduceGT, Int.reduceEq, Int.reduceNe, reduceCtorEq, List.length_map, hwl, mapAt TermG.av _ _ _ ha, TermG.av, TermG.cs_eq, ea1, ea2, ka1, ka2]
    intro q2
    have c := meval_calls b p fuel s a ea (.ref q2 [.ifc 253 (.agg []), .v (.int .i64 t.op), .v (.int .i64 t.n), .v (.string (bs t.name)), .v (.int .i64 t.ty), .lst 6 t.ha (t.args.map TermG.av), .lst 7 t.hc (t.cls.map ClauseG.av), ea, .lst 2 h gs, ka]) he.o ⟨rfl, rfl⟩ hp hb0
    simp only [ptr0, TermG.av, TermG.cs_eq, o] at c
    refine callX_by c ?_
    clear c
    rintro r hp2 ⟨rfl, rfl⟩
    refine ret_same ⟨rfl, _, rfl, rfl, rfl, rfl, rfl, rfl, rfl, ?_⟩
    unfold performG; rw [if_neg (by omega), if_neg (by omega), if_pos o, List.getLast?_eq_getElem?, h6, Nat.add_sub_cancel, ha]
    have hko := PK.obs t e got k ea ka h q2 gs he hg hk
    rw [o] at hko
    exact ⟨rfl, rfl, he, hko⟩
  · -- a let
    have h8 := n3 o
    simp [typesG, o] at hl
    match got, hl with
    | [g0], _ =>
    cases hg with | cons _ a0 c0 _ r0 p0 hg =>
    cases hg
    obtain ⟨a, ha⟩ := someAt t.args 1 (by omega)
    simp only [go_sem, Nat.reduceEqDiff, Nat.reduceAdd, Nat.reduceSub, Nat.reduceLT, Nat.reduceMul, Nat.reduceBEq, Nat.reduceLeDiff, ↓reduceIte, Int.reduceToNat, Nat.reduceGT, Int.reduceLE, Int.reduceLT, Int.reduceGE, Int.reduceGT, Int.reduceEq, Int.reduceNe, reduceCtorEq, o, decide_false, decide_true]
    refine draw_by (mu := []) (fun _ => True) (.take 0 (.take 1 (.take 2 (.take 3 (.take 4 (.take 5 (.take 6 (.take 7 (.take 8 (.take 9 (.take 10 (.take 12 (.br 11 (.br 13 (.done) (.stop)) (.stop)))))))))))))) (by decide +kernel) trivial (by decide +kernel) (by decide +kernel) ?_
    simp only [go_sem, Nat.reduceEqDiff, Nat.reduceAdd, Nat.reduceSub, Nat.reduceLT, Nat.reduceMul, Nat.reduceBEq, Nat.reduceLeDiff, ↓reduceIte, Int.reduceToNat, Nat.reduceGT, Int.reduceLE, Int.reduceLT, Int.reduceGE, Int.reduceGT, Int.reduceEq, Int.reduceNe, reduceCtorEq, List.length_map, mapAt TermG.av _ _ _ ha, TermG.av, TermG.cs_eq, ea1, ea2, ka1, ka2]
    refine callX_by (ebind_calls ea t.name a0 c0 he.o p0.o.1 p0.o.2 hp) ?_
    rintro r hp1 ⟨⟨q3, rfl⟩, rfl⟩
    simp only [go_sem, Nat.reduceEqDiff, Nat.reduceAdd, Nat.reduceSub, Nat.reduceLT, Nat.reduceMul, Nat.reduceBEq, Nat.reduceLeDiff, ↓reduceIte, Int.reduceToNat, Nat.reduceGT, Int.reduceLE, Int.reduceLT, Int.reduceGE, Int.reduceGT, Int.reduceEq, Int.reduceNe, reduceCtorEq]
    have c := meval_calls b p fuel s a (.ref q3 [.v (.string (bs t.name)), a0, c0, .v (.pointer none), .v (.bool false), ea]) ka ⟨rfl, rfl⟩ hk.o hp1 hb0
    simp only [ptr0, TermG.av, TermG.cs_eq, o] at c
    refine callX_by c ?_
    clear c
    rintro r hp2 ⟨rfl, rfl⟩
    refine ret_same ⟨rfl, _, rfl, rfl, rfl, rfl, rfl, rfl, rfl, ?_⟩
    unfold performG; rw [if_neg (by omega), if_neg (by omega), if_neg (by omega), if_pos o]
    simp only [argK', ha]
    exact ⟨rfl, rfl, .var _ _ _ _ _ _ _ p0 he, hk⟩
  · -- a call
    obtain ⟨f, hf, hfl⟩ := n4 o
    have hn0 : 0 ≤ t.n := by simp [nodeB, o] at hn; omega
    have hfp := hpr.hfp f (List.mem_of_getElem? hf)
    have hperf : performG p.fs t e got k = .ev f.body (bindG .nil (f.params.map ParamG.name) got) k := by
      unfold performG; rw [if_neg (by omega), if_neg (by omega), if_neg (by omega), if_neg (by omega), hf]
    rw [hperf]
    simp only [go_sem, Nat.reduceEqDiff, Nat.reduceAdd, Nat.reduceSub, Nat.reduceLT, Nat.reduceMul, Nat.reduceBEq, Nat.reduceLeDiff, ↓reduceIte, Int.reduceToNat, Nat.reduceGT, Int.reduceLE, Int.reduceLT, Int.reduceGE, Int.reduceGT, Int.reduceEq, Int.reduceNe, reduceCtorEq, o, decide_false, decide_true]
    refine draw_by (mu := []) (fun h => h.blk b = some (75, s.cs p fuel)) (.take 0 (.take 1 (.take 2 (.take 3 (.take 4 (.take 5 (.take 6 (.take 7 (.take 8 (.take 9 (.take 10 (.take 11 (.done))))))))))))) (by decide +kernel) hb0 (by decide +kernel) (by decide +kernel) ?_
    simp only [go_sem, Nat.reduceEqDiff, Nat.reduceAdd, Nat.reduceSub, Nat.reduceLT, Nat.reduceMul, Nat.reduceBEq, Nat.reduceLeDiff, ↓reduceIte, Int.reduceToNat, Nat.reduceGT, Int.reduceLE, Int.reduceLT, Int.reduceGE, Int.reduceGT, Int.reduceEq, Int.reduceNe, reduceCtorEq, hb, mapAt FunG.av _ _ _ hf, FunG.av, FunG.cs, paramsAV]
    refine ⟨fun h e => by rw [e]; simp only [go_sem, Nat.reduceEqDiff, Nat.reduceAdd, Nat.reduceSub, Nat.reduceLT, Nat.reduceMul, Nat.reduceBEq, Nat.reduceLeDiff, ↓reduceIte, Int.reduceToNat, Nat.reduceGT, Int.reduceLE, Int.reduceLT, Int.reduceGE, Int.reduceGT, Int.reduceEq, Int.reduceNe, reduceCtorEq, MS.cs], hn0, fun _ _ => hn0, ?_⟩
    refine aw_loopX 124 (fun y : Nat × EnvG × AV => [(0, ptr0 b), (3, .lst 2 h gs), (4, ka), (6, .ref q [.v (.int .i64 9), .v (.int .i64 t.n), .v (.string (bs t.name)), .v (.int .i64 t.ty), .lst 6 t.ha (t.args.map TermG.av), .lst 7 t.hc (t.cls.map ClauseG.av)]), (10, y.2.2), (94, .lst 2 f.hp (f.params.map ParamG.av)), (95, .v (.int .i64 f.params.length)), (96, .v (.int .i64 y.1))])
      (fun _ => hp) (fun y => y.1 ≤ f.params.length ∧ PE y.2.1 y.2.2 ∧ bindG .nil (f.params.map ParamG.name) got = bindG y.2.1 ((f.params.map ParamG.name).drop y.1) (got.drop y.1)) (fun y => f.params.length - y.1) (0, .nil, .v (.pointer none)) ⟨Nat.zero_le _, .nil, rfl⟩
      (le_mkSl rfl (Hp.le_refl _) (by simp [go_sem, ptr0])) ?_
    rintro ⟨k', e', ea'⟩ ⟨hk', he', hbi⟩
    simp only at hk' he' hbi
    refine awp_sound (mu := []) _ _ _ ?_
    simp only [go_sem, Nat.reduceEqDiff, Nat.reduceAdd, Nat.reduceSub, Nat.reduceLT, Nat.reduceMul, Nat.reduceBEq, Nat.reduceLeDiff, ↓reduceIte, Int.reduceToNat, Nat.reduceGT, Int.reduceLE, Int.reduceLT, Int.reduceGE, Int.reduceGT, Int.reduceEq, Int.reduceNe, reduceCtorEq, ptr0]
    refine brK_mk (fun h1 => ?_) (fun h1 => ?_) <;> simp only [go_sem, Nat.reduceEqDiff, Nat.reduceAdd, Nat.reduceSub, Nat.reduceLT, Nat.reduceMul, Nat.reduceBEq, Nat.reduceLeDiff, ↓reduceIte, Int.reduceToNat, Nat.reduceGT, Int.reduceLE, Int.reduceLT, Int.reduceGE, Int.reduceGT, Int.reduceEq, Int.reduceNe, reduceCtorEq, h1]
    · have hlt : k' < f.params.length := by simpa using h1
      obtain ⟨a, ha⟩ := someAt f.params k' hlt
      obtain ⟨g0, hg0⟩ := someAt got k' (by omega)
      obtain ⟨a0, c0, hgs, p0⟩ := hg.at hg0
      have hwu : IntKind.i64.wrap ((k' : Int) + 1) = ((k' + 1 : Nat) : Int) := IntWalk.i64_in _ (by omega)
      have e1 := ((AV.cells.eq_1 _).symm.trans p0.o.1.cells); have e2 := ((AV.cells.eq_1 _).symm.trans p0.o.2.cells)
      simp only [go_sem, Nat.reduceEqDiff, Nat.reduceAdd, Nat.reduceSub, Nat.reduceLT, Nat.reduceMul, Nat.reduceBEq, Nat.reduceLeDiff, ↓reduceIte, Int.reduceToNat, Nat.reduceGT, Int.reduceLE, Int.reduceLT, Int.reduceGE, Int.reduceGT, Int.reduceEq, Int.reduceNe, reduceCtorEq, mapAt ParamG.av _ _ _ ha, ParamG.av, ParamG.cs]
      intro v hv
      have hds := fun T cs => Hp.del_set _ _ T cs hv.1
      simp only [go_sem, Nat.reduceEqDiff, Nat.reduceAdd, Nat.reduceSub, Nat.reduceLT, Nat.reduceMul, Nat.reduceBEq, Nat.reduceLeDiff, ↓reduceIte, Int.reduceToNat, Nat.reduceGT, Int.reduceLE, Int.reduceLT, Int.reduceGE, Int.reduceGT, Int.reduceEq, Int.reduceNe, reduceCtorEq, hds]
      refine draw_by (mu := []) (fun _ => True) (.take 0 (.take 1 (.take 2 (.take 3 (.take 4 (.take 5 (.take 6 (.br 7 (.take 8 (.done)) (.stop))))))))) (by decide +kernel) trivial (by decide +kernel) (by decide +kernel) ?_
      simp only [go_sem, Nat.reduceEqDiff, Nat.reduceAdd, Nat.reduceSub, Nat.reduceLT, Nat.reduceMul, Nat.reduceBEq, Nat.reduceLeDiff, ↓reduceIte, Int.reduceToNat, Nat.reduceGT, Int.reduceLE, Int.reduceLT, Int.reduceGE, Int.reduceGT, Int.reduceEq, Int.reduceNe, reduceCtorEq, hgs]
      refine callX_by (ebind_calls ea' a.name a0 c0 he'.o p0.o.1 p0.o.2 hp) ?_
      rintro r hp1 ⟨⟨q3, rfl⟩, rfl⟩
      simp only [go_sem, Nat.reduceEqDiff, Nat.reduceAdd, Nat.reduceSub, Nat.reduceLT, Nat.reduceMul, Nat.reduceBEq, Nat.reduceLeDiff, ↓reduceIte, Int.reduceToNat, Nat.reduceGT, Int.reduceLE, Int.reduceLT, Int.reduceGE, Int.reduceGT, Int.reduceEq, Int.reduceNe, reduceCtorEq, hwu]
      exact ⟨(k' + 1, .var a.name g0 e', _), by simp only; omega, ⟨by simp only; omega, .var _ _ _ _ _ _ q3 p0 he', by rw [hbi]; exact bindG_step (mapAt ParamG.name _ _ _ ha) hg0⟩, le_mkSl rfl (Hp.le_refl _) (by simp [go_sem, ptr0, hwu])⟩
    · have hge : k' = f.params.length := by simp at h1; omega
      subst hge
      rw [List.drop_of_length_le (by simp), bindG_nil] at hbi
      rw [hbi]
      refine draw_by (mu := []) (fun h => ∃ s', h.blk b = some (75, MS.cs p fuel s')) (.take 0 (.take 1 (.take 2 (.take 3 (.take 4 (.take 5 (.take 6 (.take 7 (.take 8 (.take 9 (.take 10 (.take 11 (.take 12 (.br 13 (.done) (.stop))))))))))))))) (by decide +kernel) ⟨_, hb0⟩ (by decide +kernel) (by decide +kernel) ?_
      simp only [go_sem, Nat.reduceEqDiff, Nat.reduceAdd, Nat.reduceSub, Nat.reduceLT, Nat.reduceMul, Nat.reduceBEq, Nat.reduceLeDiff, ↓reduceIte, Int.reduceToNat, Nat.reduceGT, Int.reduceLE, Int.reduceLT, Int.reduceGE, Int.reduceGT, Int.reduceEq, Int.reduceNe, reduceCtorEq, hb, mapAt FunG.av _ _ _ hf, FunG.av, FunG.cs, paramsAV]
      refine ⟨fun h e => by obtain ⟨s', e⟩ := e; rw [e]; simp only [go_sem, Nat.reduceEqDiff, Nat.reduceAdd, Nat.reduceSub, Nat.reduceLT, Nat.reduceMul, Nat.reduceBEq, Nat.reduceLeDiff, ↓reduceIte, Int.reduceToNat, Nat.reduceGT, Int.reduceLE, Int.reduceLT, Int.reduceGE, Int.reduceGT, Int.reduceEq, Int.reduceNe, reduceCtorEq, MS.cs], hn0, fun _ _ => hn0, ?_⟩
      have c := meval_calls b p fuel s f.body ea' ka he'.o hk.o hp hb0
      simp only [ptr0, TermG.av, TermG.cs_eq] at c
      refine callX_by c ?_
      clear c
      rintro r hp2 ⟨rfl, rfl⟩
      refine ⟨⟨_, ms_fz ..⟩, ?_⟩
      exact ret_same ⟨rfl, _, rfl, rfl, rfl, rfl, rfl, rfl, rfl, ⟨rfl, rfl, he', hk⟩⟩
end Go.Proofs.YtkoachnlimebaaaGreatDoor
