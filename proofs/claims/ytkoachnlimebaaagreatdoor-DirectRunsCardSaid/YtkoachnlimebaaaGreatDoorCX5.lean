/- Decimal numerals: the recursion that the reference uses. -/
import Derived.Test.YtkoachnlimebaaaGreatDoorCU9
import Derived.Lib.ItoaMem
import Derived.Test.YtkoachnlimebaaaGreatDoorCW5
import Derived.Test.YtkoachnlimebaaaGreatDoorCW5
import Derived.Test.YtkoachnlimebaaaGreatDoorCW5
import Derived.Test.YtkoachnlimebaaaGreatDoorCU9
import Derived.Test.YtkoachnlimebaaaGreatDoorCW5
import Derived.Test.YtkoachnlimebaaaGreatDoorCT22
set_option linter.unusedSimpArgs false
set_option linter.unusedVariables false
set_option maxRecDepth 20000
namespace Go.Proofs.YtkoachnlimebaaaGreatDoor
open Go.AL

theorem neg_div (u : Nat) : (-(u : Int)).tdiv 10 = -((u / 10 : Nat) : Int) := by
  rw [Int.neg_tdiv, Int.tdiv_eq_ediv_of_nonneg (by omega)]; omega
theorem neg_mod (u : Nat) : (-(u : Int)).tmod 10 = -((u % 10 : Nat) : Int) := by
  rw [Int.neg_tmod, Int.tmod_eq_emod_of_nonneg (by omega)]; omega
theorem pos_div (u : Nat) : (u : Int).tdiv 10 = ((u / 10 : Nat) : Int) := by
  rw [Int.tdiv_eq_ediv_of_nonneg (by omega)]; omega
theorem pos_mod (u : Nat) : (u : Int).tmod 10 = ((u % 10 : Nat) : Int) := by
  rw [Int.tmod_eq_emod_of_nonneg (by omega)]; omega
theorem itoa_small {u : Nat} (h : u < 10) : Lib.itoa (u : Int) = [UInt8.ofNat (48 + u)] := by
  rw [Lib.itoa_nonneg, Lib.decDigits, dif_pos h]
theorem itoa_big {u : Nat} (h : ¬ u < 10) : Lib.itoa (u : Int) = Lib.itoa ((u / 10 : Nat) : Int) ++ [UInt8.ofNat (48 + u % 10)] := by
  rw [Lib.itoa_nonneg, Lib.itoa_nonneg, Lib.decDigits, dif_neg h]
theorem itoa_nsmall {u : Nat} (h0 : 0 < u) (h : u < 10) : Lib.itoa (-(u : Int)) = [45, UInt8.ofNat (48 + u)] := by
  rw [Lib.itoa_neg u h0, Lib.decDigits, dif_pos h]
theorem itoa_nbig {u : Nat} (h : ¬ u < 10) : Lib.itoa (-(u : Int)) = Lib.itoa (-((u / 10 : Nat) : Int)) ++ [UInt8.ofNat (48 + u % 10)] := by
  rw [Lib.itoa_neg u (by omega), Lib.itoa_neg (u / 10) (by omega), Lib.decDigits, dif_neg h]; rfl
end Go.Proofs.YtkoachnlimebaaaGreatDoor
/- The machine of direct evaluation: how the reference's memory pictures it. -/
set_option linter.unusedSimpArgs false
set_option linter.unusedVariables false
set_option maxRecDepth 20000
namespace Go.Proofs.YtkoachnlimebaaaGreatDoor
open Go.AL

/-- The cells of a term that is not set. -/
def ztC : List AV := [.v (.int .i64 0), .v (.int .i64 0), .v (.string (bs [])), .v (.int .i64 0), .v (.slice none 0 0), .v (.slice none 0 0)]
def zvC : List AV := [.v (.int .i64 0), .v (.int .i64 0), .v (.int .i64 0), .v (.slice none 0 0), .v (.slice none 0 0), .v (.pointer none)]
mutual
/-- A value: kind, number, type, arguments, clauses, environment. -/
inductive QV : ValG → List AV → Prop where
  | int (n : Int) : QV (.int n) [.v (.int .i64 0), .v (.int .i64 n), .v (.int .i64 0), .v (.slice none 0 0), .v (.slice none 0 0), .v (.pointer none)]
  | con (ty n : Int) (args : List BndG) (h : Value) (gs : List AV) (ha : QBs args gs) : QV (.con ty n args) [.v (.int .i64 1), .v (.int .i64 n), .v (.int .i64 ty), .lst 14 h gs, .v (.slice none 0 0), .v (.pointer none)]
  | obj (t : TermG) (e : EnvG) (ea : AV) (he : QE e ea) : QV (.obj t e) [.v (.int .i64 2), .v (.int .i64 0), .v (.int .i64 t.ty), .v (.slice none 0 0), .lst 7 t.hc (t.cls.map ClauseG.av), ea]
/-- A bound: whether it is a thunk, value, term, environment. -/
inductive QB : BndG → List AV → Prop where
  | val (v : ValG) (cs : List AV) (h : QV v cs) : QB (.val v) (.v (.bool false) :: (cs ++ (ztC ++ [.v (.pointer none)])))
  | thunk (t : TermG) (e : EnvG) (ea : AV) (he : QE e ea) : QB (.thunk t e) (.v (.bool true) :: (zvC ++ [.v (.int .i64 t.op), .v (.int .i64 t.n), .v (.string (bs t.name)), .v (.int .i64 t.ty), .lst 6 t.ha (t.args.map TermG.av), .lst 7 t.hc (t.cls.map ClauseG.av), ea]))
inductive QBs : List BndG → List AV → Prop where
  | nil : QBs [] []
  | cons (b : BndG) (cs : List AV) (l : List BndG) (r : List AV) (h : QB b cs) (hr : QBs l r) : QBs (b :: l) (.agg cs :: r)
/-- An environment: label, name, bound, frame, rest. -/
inductive QE : EnvG → AV → Prop where
  | nil : QE .nil (.v (.pointer none))
  | var (s : Bytes) (b : BndG) (e : EnvG) (cs : List AV) (ea : AV) (p : Value) (hb : QB b cs) (he : QE e ea) : QE (.var s b e) (.ref p (.v (.bool false) :: .v (.string (bs s)) :: (cs ++ [.v (.pointer none), ea])))
  | lab (s : Bytes) (k : FrmG) (e : EnvG) (ka ea : AV) (p : Value) (hk : QK k ka) (he : QE e ea) : QE (.lab s k e) (.ref p (.v (.bool true) :: .v (.string (bs s)) :: .v (.bool false) :: (zvC ++ (ztC ++ [.v (.pointer none), ka, ea]))))
/-- A frame: kind, term, environment, what is done, number, rest. -/
inductive QK : FrmG → AV → Prop where
  | nil (p : Value) : QK .nil (.ref p (.v (.int .i64 0) :: (ztC ++ [.v (.pointer none), .v (.slice none 0 0), .v (.int .i64 0), .v (.pointer none)])))
  | bnd (t : TermG) (e : EnvG) (got : List BndG) (k : FrmG) (ea ka : AV) (h p : Value) (gs : List AV) (ho : t.op ≠ 2) (he : QE e ea) (hg : QBs got gs) (hk : QK k ka) : QK (.app t e got k) (.ref p [.v (.int .i64 1), .v (.int .i64 t.op), .v (.int .i64 t.n), .v (.string (bs t.name)), .v (.int .i64 t.ty), .lst 6 t.ha (t.args.map TermG.av), .lst 7 t.hc (t.cls.map ClauseG.av), ea, .lst 14 h gs, .v (.int .i64 0), ka])
  | rgt (t : TermG) (e : EnvG) (k : FrmG) (ea ka : AV) (p : Value) (ho : t.op = 2) (he : QE e ea) (hk : QK k ka) : QK (.app t e [] k) (.ref p [.v (.int .i64 2), .v (.int .i64 t.op), .v (.int .i64 t.n), .v (.string (bs t.name)), .v (.int .i64 t.ty), .lst 6 t.ha (t.args.map TermG.av), .lst 7 t.hc (t.cls.map ClauseG.av), ea, .v (.slice none 0 0), .v (.int .i64 0), ka])
  | prm (t : TermG) (e : EnvG) (n : Int) (k : FrmG) (ka : AV) (p : Value) (ho : t.op = 2) (hk : QK k ka) : QK (.app t e [.val (.int n)] k) (.ref p [.v (.int .i64 3), .v (.int .i64 t.op), .v (.int .i64 t.n), .v (.string (bs t.name)), .v (.int .i64 t.ty), .lst 6 t.ha (t.args.map TermG.av), .lst 7 t.hc (t.cls.map ClauseG.av), .v (.pointer none), .v (.slice none 0 0), .v (.int .i64 n), ka])
  | brn (t : TermG) (e : EnvG) (k : FrmG) (ea ka : AV) (p : Value) (ho : t.op = 3) (he : QE e ea) (hk : QK k ka) : QK (.tst t e k) (.ref p [.v (.int .i64 4), .v (.int .i64 t.op), .v (.int .i64 t.n), .v (.string (bs t.name)), .v (.int .i64 t.ty), .lst 6 t.ha (t.args.map TermG.av), .lst 7 t.hc (t.cls.map ClauseG.av), ea, .v (.slice none 0 0), .v (.int .i64 0), ka])
  | cas (t : TermG) (e : EnvG) (k : FrmG) (ea ka : AV) (p : Value) (he : QE e ea) (hk : QK k ka) : QK (.cas t e k) (.ref p [.v (.int .i64 5), .v (.int .i64 t.op), .v (.int .i64 t.n), .v (.string (bs t.name)), .v (.int .i64 t.ty), .lst 6 t.ha (t.args.map TermG.av), .lst 7 t.hc (t.cls.map ClauseG.av), ea, .v (.slice none 0 0), .v (.int .i64 0), ka])
  | obs (t : TermG) (e : EnvG) (got : List BndG) (k : FrmG) (ka : AV) (h p : Value) (gs : List AV) (hg : QBs got gs) (hk : QK k ka) : QK (.obs t e got k) (.ref p [.v (.int .i64 6), .v (.int .i64 t.op), .v (.int .i64 t.n), .v (.string (bs t.name)), .v (.int .i64 t.ty), .lst 6 t.ha (t.args.map TermG.av), .lst 7 t.hc (t.cls.map ClauseG.av), .v (.pointer none), .lst 14 h gs, .v (.int .i64 0), ka])
  | emt (t : TermG) (e : EnvG) (k : FrmG) (ea ka : AV) (p : Value) (ho : t.op = 10) (he : QE e ea) (hk : QK k ka) : QK (.tst t e k) (.ref p [.v (.int .i64 7), .v (.int .i64 t.op), .v (.int .i64 t.n), .v (.string (bs t.name)), .v (.int .i64 t.ty), .lst 6 t.ha (t.args.map TermG.av), .lst 7 t.hc (t.cls.map ClauseG.av), ea, .v (.slice none 0 0), .v (.int .i64 0), ka])
end
theorem QV.cells {v : ValG} {cs : List AV} (h : QV v cs) : ∃ a0 a1 a2 a3 a4 a5, cs = [a0, a1, a2, a3, a4, a5] := by cases h <;> exact ⟨_, _, _, _, _, _, rfl⟩
theorem QB.cells {b : BndG} {cs : List AV} (h : QB b cs) : ∃ a0 a1 a2 a3 a4 a5 a6 a7 a8 a9 a10 a11 a12 a13, cs = [a0, a1, a2, a3, a4, a5, a6, a7, a8, a9, a10, a11, a12, a13] := by
  cases h with
  | val v cs h => obtain ⟨a0, a1, a2, a3, a4, a5, rfl⟩ := h.cells; exact ⟨_, _, _, _, _, _, _, _, _, _, _, _, _, _, rfl⟩
  | thunk t e ea he => exact ⟨_, _, _, _, _, _, _, _, _, _, _, _, _, _, rfl⟩
theorem QBs.len : ∀ {l : List BndG} {gs : List AV}, QBs l gs → gs.length = l.length
  | [], _, h => by cases h; rfl
  | b :: l, _, h => by cases h with | cons _ x _ r hb hr => rw [List.length_cons, List.length_cons, hr.len]
theorem QBs.at : ∀ {l : List BndG} {gs : List AV} {i : Nat} {b : BndG}, QBs l gs → l[i]? = some b → ∃ cs, gs[i]? = some (.agg cs) ∧ QB b cs
  | [], _, _, _, _, h => by simp at h
  | b :: l, _, 0, c, hp, h => by
    cases hp with | cons _ x _ r hb hr =>
    simp at h; subst h
    exact ⟨x, rfl, hb⟩
  | b :: l, _, i + 1, c, hp, h => by
    cases hp with | cons _ x _ r hb hr =>
    obtain ⟨x', h1, h2⟩ := hr.at (i := i) (by simpa using h)
    exact ⟨x', by simpa using h1, h2⟩
theorem QBs.snoc : ∀ {l : List BndG} {gs : List AV} {b : BndG} {x : List AV}, QBs l gs → QB b x → QBs (l ++ [b]) (gs ++ [.agg x])
  | [], _, b, x, hp, h => by cases hp; exact .cons _ _ _ _ h .nil
  | c :: l, _, b, x, hp, h => by
    cases hp with | cons _ x' _ r hb hr =>
    exact .cons _ _ _ _ hb (hr.snoc h)
end Go.Proofs.YtkoachnlimebaaaGreatDoor
/- The reference of direct evaluation: what writes its machine; environments. -/
set_option linter.unusedSimpArgs false
set_option linter.unusedVariables false
set_option maxRecDepth 20000
set_option maxHeartbeats 4000000
namespace Go.Proofs.YtkoachnlimebaaaGreatDoor
open Go.AL

theorem QE.o {e : EnvG} {a : AV} (h : QE e a) : One a := by cases h <;> exact ⟨rfl, rfl⟩
theorem QK.o {e : FrmG} {a : AV} (h : QK e a) : One a := by cases h <;> exact ⟨rfl, rfl⟩
/-- What the reference's machine holds. -/
structure RS where
  how : Int
  val : Int
  oh : Value
  outs : List Int
  steps : Int
  term : Bool
  t : TermG
  ea : AV
  v0 : AV
  v1 : AV
  v2 : AV
  v3 : AV
  v4 : AV
  v5 : AV
  ka : AV
  over : Bool
def RS.cs (p : ProgG) (fuel : Int) (s : RS) : List AV :=
  [.lst 3 p.hd (p.ds.map DeclG.av), .lst 9 p.hf (p.fs.map FunG.av), .v (.int .i64 fuel), .v (.int .i64 s.how), .v (.int .i64 s.val), .lst 1 s.oh (s.outs.map iv), .v (.int .i64 s.steps), .v (.bool s.term),
   .v (.int .i64 s.t.op), .v (.int .i64 s.t.n), .v (.string (bs s.t.name)), .v (.int .i64 s.t.ty), .lst 6 s.t.ha (s.t.args.map TermG.av), .lst 7 s.t.hc (s.t.cls.map ClauseG.av), s.ea, s.v0, s.v1, s.v2, s.v3, s.v4, s.v5, s.ka, .v (.bool s.over)]
def RCtl : Ctl → RS → Prop
  | .ev t e k, s => s.term = true ∧ s.t = t ∧ QE e s.ea ∧ QK k s.ka
  | .gv v k, s => s.term = false ∧ QV v [s.v0, s.v1, s.v2, s.v3, s.v4, s.v5] ∧ QK k s.ka
structure RMac (m : MacG) (s : RS) : Prop where
  outs : s.outs = m.outs
  steps : s.steps = m.steps
  ctl : m.fin = none → s.over = false ∧ RCtl m.c s
  fin : ∀ how val, m.fin = some (how, val) → s.over = true ∧ s.how = how ∧ s.val = val
theorem rend_calls (b : Nat) (p : ProgG) (fuel : Int) (s : RS) (how val : Int) (hp : Hp) (hb : hp.blk b = some (100, s.cs p fuel)) :
    ACalls Tryz.prog 46 [ptr0 b, .v (.int .i64 how), .v (.int .i64 val)] hp (fun r hp' => r = .tup [] ∧ hp' = hp.setBlk b 100 (({ s with how := how, val := val, over := true } : RS).cs p fuel)) := by
  refine acalls_of Tryz.func46 rfl (by decide +kernel) (awp_sound (mu := [13, 16, 18]) _ _ _ ?_)
  simp only [RS.cs] at hb
  simp only [go_sem, Nat.reduceEqDiff, Nat.reduceAdd, Nat.reduceSub, Nat.reduceLT, Nat.reduceBEq, Nat.reduceLeDiff, ↓reduceIte, Int.reduceToNat, Int.reduceLE, Int.reduceLT, Int.reduceEq, reduceCtorEq, ptr0, hb]
  exact ret_same ⟨rfl, rfl⟩
theorem reval_calls (b : Nat) (p : ProgG) (fuel : Int) (s : RS) (t : TermG) (ea ka : AV) (h1 : One ea) (h2 : One ka) (hp : Hp) (hb : hp.blk b = some (100, s.cs p fuel)) :
    ACalls Tryz.prog 43 [ptr0 b, t.av, ea, ka] hp (fun r hp' => r = .tup [] ∧ hp' = hp.setBlk b 100 (({ s with t := t, ea := ea, ka := ka, term := true } : RS).cs p fuel)) := by
  refine acalls_of Tryz.func43 rfl (by decide +kernel) (awp_sound (mu := [16, 18, 20, 22]) _ _ _ ?_)
  simp only [RS.cs] at hb
  have e1 := ((AV.cells.eq_1 _).symm.trans h1.cells); have e2 := ((AV.cells.eq_1 _).symm.trans h2.cells); have e3 := h1.one; have e4 := h2.one
  simp only [go_sem, Nat.reduceEqDiff, Nat.reduceAdd, Nat.reduceSub, Nat.reduceLT, Nat.reduceBEq, Nat.reduceLeDiff, ↓reduceIte, Int.reduceToNat, Int.reduceLE, Int.reduceLT, Int.reduceEq, reduceCtorEq, ptr0, TermG.av, TermG.cs_eq]
  intro q
  refine draw_by (mu := [16, 18, 20, 22]) (fun _ => True) (.take 0 (.take 1 (.take 2 (.take 3 (.take 4 (.take 5 (.take 6 (.take 7 (.take 8 (.br 9 (.take 10 (.take 11 (.br 12 (.take 13 (.take 14 (.br 15 (.take 16 (.take 17 (.br 18 (.done) (.stop)))) (.stop)))) (.stop)))) (.stop))))))))))) (by decide +kernel) trivial (by decide +kernel) (by decide +kernel) ?_
  simp only [go_sem, Nat.reduceEqDiff, Nat.reduceAdd, Nat.reduceSub, Nat.reduceLT, Nat.reduceBEq, Nat.reduceLeDiff, ↓reduceIte, Int.reduceToNat, Int.reduceLE, Int.reduceLT, Int.reduceEq, reduceCtorEq, hb, e1, e2, e3, e4]
  repeat' (first | exact ret_same ⟨rfl, rfl⟩ | with_reducible refine And.intro ?_ ?_)
theorem rpass_calls (b : Nat) (p : ProgG) (fuel : Int) (s : RS) (a0 a1 a2 a3 a4 a5 ka : AV) (h0 : One a0) (h1 : One a1) (h2 : One a2) (h3 : One a3) (h4 : One a4) (h5 : One a5) (h6 : One ka) (hp : Hp) (hb : hp.blk b = some (100, s.cs p fuel)) :
    ACalls Tryz.prog 93 [ptr0 b, .agg [a0, a1, a2, a3, a4, a5], ka] hp (fun r hp' => r = .tup [] ∧ hp' = hp.setBlk b 100 (({ s with v0 := a0, v1 := a1, v2 := a2, v3 := a3, v4 := a4, v5 := a5, ka := ka, term := false } : RS).cs p fuel)) := by
  refine acalls_of Tryz.func93 rfl (by decide +kernel) (awp_sound (mu := [12, 14, 16]) _ _ _ ?_)
  simp only [RS.cs] at hb
  simp only [go_sem, Nat.reduceEqDiff, Nat.reduceAdd, Nat.reduceSub, Nat.reduceLT, Nat.reduceBEq, Nat.reduceLeDiff, ↓reduceIte, Int.reduceToNat, Int.reduceLE, Int.reduceLT, Int.reduceEq, reduceCtorEq, ptr0, ((AV.cells.eq_1 _).symm.trans h0.cells), h0.one, ((AV.cells.eq_1 _).symm.trans h1.cells), h1.one, ((AV.cells.eq_1 _).symm.trans h2.cells), h2.one, ((AV.cells.eq_1 _).symm.trans h3.cells), h3.one, ((AV.cells.eq_1 _).symm.trans h4.cells), h4.one, ((AV.cells.eq_1 _).symm.trans h5.cells), h5.one, ((AV.cells.eq_1 _).symm.trans h6.cells), h6.one]
  intro q
  refine draw_by (mu := [12, 14, 16]) (fun _ => True) (.take 0 (.take 1 (.take 2 (.take 3 (.take 4 (.take 5 (.take 6 (.br 7 (.take 8 (.take 9 (.br 10 (.take 11 (.take 12 (.br 13 (.done) (.stop)))) (.stop)))) (.stop))))))))) (by decide +kernel) trivial (by decide +kernel) (by decide +kernel) ?_
  simp only [go_sem, Nat.reduceEqDiff, Nat.reduceAdd, Nat.reduceSub, Nat.reduceLT, Nat.reduceBEq, Nat.reduceLeDiff, ↓reduceIte, Int.reduceToNat, Int.reduceLE, Int.reduceLT, Int.reduceEq, reduceCtorEq, hb, ((AV.cells.eq_1 _).symm.trans h0.cells), h0.one, ((AV.cells.eq_1 _).symm.trans h1.cells), h1.one, ((AV.cells.eq_1 _).symm.trans h2.cells), h2.one, ((AV.cells.eq_1 _).symm.trans h3.cells), h3.one, ((AV.cells.eq_1 _).symm.trans h4.cells), h4.one, ((AV.cells.eq_1 _).symm.trans h5.cells), h5.one, ((AV.cells.eq_1 _).symm.trans h6.cells), h6.one]
  repeat' (first | exact ret_same ⟨rfl, rfl⟩ | with_reducible refine And.intro ?_ ?_)
theorem rfindV_calls (e : EnvG) (ea : AV) (he : QE e ea) (x : Bytes) (hp : Hp) : ACalls Tryz.prog 95 [ea, .v (.bool false), .v (.string (bs x))] hp
    (fun r hp' => hp' = hp ∧ ∀ bd, findV e x = some bd → ∃ q l s cs k n, QB bd cs ∧ r = .ref q (l :: s :: (cs ++ [k, n]))) := by
  refine acalls_of Tryz.func95 rfl (by decide +kernel) (awp_sound (mu := []) _ _ _ ?_)
  simp only [go_sem, Nat.reduceEqDiff, Nat.reduceAdd, Nat.reduceSub, Nat.reduceLT, Nat.reduceBEq, Nat.reduceLeDiff, ↓reduceIte, Int.reduceToNat, Int.reduceLE, Int.reduceLT, Int.reduceEq, reduceCtorEq]
  refine aw_loopX 28 (fun y : EnvG × AV => [(0, y.2), (1, .v (.bool false)), (2, .v (.string (bs x)))]) (fun _ => hp) (fun y => QE y.1 y.2 ∧ findV y.1 x = findV e x) (fun y => envLen y.1) (e, ea) ⟨he, rfl⟩ (le_mkSl rfl (Hp.le_refl _) (by simp [go_sem])) ?_
  rintro ⟨e1, a1⟩ ⟨h1, h2⟩
  simp only at h1 h2
  refine awp_sound (mu := []) _ _ _ ?_
  cases h1 with
  | nil =>
    simp only [go_sem, Nat.reduceEqDiff, Nat.reduceAdd, Nat.reduceSub, Nat.reduceLT, Nat.reduceBEq, Nat.reduceLeDiff, ↓reduceIte, Int.reduceToNat, Int.reduceLE, Int.reduceLT, Int.reduceEq, reduceCtorEq]
    exact ret_same ⟨rfl, fun bd hbd => by rw [← h2, findV] at hbd; cases hbd⟩
  | lab s k e2 ka ea2 p hk he2 =>
    simp only [go_sem, Nat.reduceEqDiff, Nat.reduceAdd, Nat.reduceSub, Nat.reduceLT, Nat.reduceBEq, Nat.reduceLeDiff, ↓reduceIte, Int.reduceToNat, Int.reduceLE, Int.reduceLT, Int.reduceEq, reduceCtorEq, zvC, ztC, List.cons_append, List.nil_append]
    exact ⟨(e2, ea2), by simp [envLen], ⟨he2, by rw [← h2, findV]⟩, le_mkSl rfl (Hp.le_refl _) (by simp [go_sem])⟩
  | var s b e2 cs ea2 p hb he2 =>
    rw [findV] at h2
    obtain ⟨a0, a1, a2, a3, a4, a5, a6, a7, a8, a9, a10, a11, a12, a13, rfl⟩ := hb.cells
    simp only [go_sem, Nat.reduceEqDiff, Nat.reduceAdd, Nat.reduceSub, Nat.reduceLT, Nat.reduceBEq, Nat.reduceLeDiff, ↓reduceIte, Int.reduceToNat, Int.reduceLE, Int.reduceLT, Int.reduceEq, reduceCtorEq, List.cons_append, List.nil_append]
    refine brK_mk (fun g => ?_) (fun g => ?_) <;> simp only [go_sem, Nat.reduceEqDiff, Nat.reduceAdd, Nat.reduceSub, Nat.reduceLT, Nat.reduceBEq, Nat.reduceLeDiff, ↓reduceIte, Int.reduceToNat, Int.reduceLE, Int.reduceLT, Int.reduceEq, reduceCtorEq, g, List.cons_append, List.nil_append]
    · rw [if_pos (of_decide_eq_true g)] at h2
      exact ret_same ⟨rfl, fun bd hbd => by rw [← h2] at hbd; cases hbd; exact ⟨_, _, _, _, _, _, hb, rfl⟩⟩
    · rw [if_neg (of_decide_eq_false g)] at h2
      exact ⟨(e2, ea2), by simp [envLen], ⟨he2, h2⟩, le_mkSl rfl (Hp.le_refl _) (by simp [go_sem])⟩
theorem rfindL_calls (e : EnvG) (ea : AV) (he : QE e ea) (x : Bytes) (hp : Hp) : ACalls Tryz.prog 95 [ea, .v (.bool true), .v (.string (bs x))] hp
    (fun r hp' => hp' = hp ∧ ∀ k, findL e x = some k → ∃ q a0 a1 a2 a3 a4 a5 a6 a7 a8 a9 a10 a11 a12 a13 l s ka n, QK k ka ∧ r = .ref q [l, s, a0, a1, a2, a3, a4, a5, a6, a7, a8, a9, a10, a11, a12, a13, ka, n]) := by
  refine acalls_of Tryz.func95 rfl (by decide +kernel) (awp_sound (mu := []) _ _ _ ?_)
  simp only [go_sem, Nat.reduceEqDiff, Nat.reduceAdd, Nat.reduceSub, Nat.reduceLT, Nat.reduceBEq, Nat.reduceLeDiff, ↓reduceIte, Int.reduceToNat, Int.reduceLE, Int.reduceLT, Int.reduceEq, reduceCtorEq]
  refine aw_loopX 28 (fun y : EnvG × AV => [(0, y.2), (1, .v (.bool true)), (2, .v (.string (bs x)))]) (fun _ => hp) (fun y => QE y.1 y.2 ∧ findL y.1 x = findL e x) (fun y => envLen y.1) (e, ea) ⟨he, rfl⟩ (le_mkSl rfl (Hp.le_refl _) (by simp [go_sem])) ?_
  rintro ⟨e1, a1⟩ ⟨h1, h2⟩
  simp only at h1 h2
  refine awp_sound (mu := []) _ _ _ ?_
  cases h1 with
  | nil =>
    simp only [go_sem, Nat.reduceEqDiff, Nat.reduceAdd, Nat.reduceSub, Nat.reduceLT, Nat.reduceBEq, Nat.reduceLeDiff, ↓reduceIte, Int.reduceToNat, Int.reduceLE, Int.reduceLT, Int.reduceEq, reduceCtorEq]
    exact ret_same ⟨rfl, fun bd hbd => by rw [← h2, findL] at hbd; cases hbd⟩
  | var s b e2 cs ea2 p hb he2 =>
    obtain ⟨a0, a1, a2, a3, a4, a5, a6, a7, a8, a9, a10, a11, a12, a13, rfl⟩ := hb.cells
    simp only [go_sem, Nat.reduceEqDiff, Nat.reduceAdd, Nat.reduceSub, Nat.reduceLT, Nat.reduceBEq, Nat.reduceLeDiff, ↓reduceIte, Int.reduceToNat, Int.reduceLE, Int.reduceLT, Int.reduceEq, reduceCtorEq, List.cons_append, List.nil_append]
    exact ⟨(e2, ea2), by simp [envLen], ⟨he2, by rw [← h2, findL]⟩, le_mkSl rfl (Hp.le_refl _) (by simp [go_sem])⟩
  | lab s k e2 ka ea2 p hk he2 =>
    rw [findL] at h2
    simp only [go_sem, Nat.reduceEqDiff, Nat.reduceAdd, Nat.reduceSub, Nat.reduceLT, Nat.reduceBEq, Nat.reduceLeDiff, ↓reduceIte, Int.reduceToNat, Int.reduceLE, Int.reduceLT, Int.reduceEq, reduceCtorEq, zvC, ztC, List.cons_append, List.nil_append]
    refine brK_mk (fun g => ?_) (fun g => ?_) <;> simp only [go_sem, Nat.reduceEqDiff, Nat.reduceAdd, Nat.reduceSub, Nat.reduceLT, Nat.reduceBEq, Nat.reduceLeDiff, ↓reduceIte, Int.reduceToNat, Int.reduceLE, Int.reduceLT, Int.reduceEq, reduceCtorEq, g, zvC, ztC, List.cons_append, List.nil_append]
    · rw [if_pos (of_decide_eq_true g)] at h2
      exact ret_same ⟨rfl, fun bd hbd => by rw [← h2] at hbd; cases hbd; exact ⟨_, _, _, _, _, _, _, _, _, _, _, _, _, _, _, _, _, _, _, hk, rfl⟩⟩
    · rw [if_neg (of_decide_eq_false g)] at h2
      exact ⟨(e2, ea2), by simp [envLen], ⟨he2, h2⟩, le_mkSl rfl (Hp.le_refl _) (by simp [go_sem])⟩
end Go.Proofs.YtkoachnlimebaaaGreatDoor
/- The reference of direct evaluation: types, primitive operations, environments. -/
set_option linter.unusedSimpArgs false
set_option linter.unusedVariables false
set_option maxRecDepth 20000
set_option maxHeartbeats 4000000
namespace Go.Proofs.YtkoachnlimebaaaGreatDoor
open Go.AL

theorem w64_mod {a b : Int} (ha : I64 a) (hb : I64 b) (h0 : b ≠ 0) : w64 (a - w64 (w64 (a.tdiv b) * b)) = a.tmod b := by
  have key : ∀ n, ∃ k, w64 n = n + k * 18446744073709551616 := by
    intro n
    unfold w64
    rw [IntKind.wrap_i64]
    exact ⟨-((n + 9223372036854775808) / 18446744073709551616), by omega⟩
  have hm : I64 (a.tmod b) := by
    have := prim_in (op := 4) ha hb
    simpa [primG, h0] using this
  obtain ⟨k1, h1⟩ := key (a.tdiv b)
  obtain ⟨k2, h2⟩ := key (w64 (a.tdiv b) * b)
  rw [h2, h1]
  have hq : a.tdiv b * b = a - a.tmod b := by
    have := Int.tmod_add_mul_tdiv a b
    rw [Int.mul_comm]; omega
  have e1 : (a.tdiv b + k1 * 18446744073709551616) * b = a - a.tmod b + k1 * b * 18446744073709551616 := by
    rw [Int.add_mul, hq, Int.mul_assoc, Int.mul_comm 18446744073709551616 b, ← Int.mul_assoc]
  rw [e1]
  generalize k1 * b = z
  generalize a.tmod b = r at hm
  unfold w64
  rw [IntKind.wrap_i64]
  unfold I64 at hm
  omega
theorem rprim_calls (op a b : Int) (ha : I64 a) (hb : I64 b) (hp : Hp) : ACalls Tryz.prog 94 [.v (.int .i64 op), .v (.int .i64 a), .v (.int .i64 b)] hp (fun r hp' => r = .v (.int .i64 (primG op a b)) ∧ hp' = hp) := by
  refine acalls_of Tryz.func94 rfl (by decide +kernel) (awp_sound (mu := []) _ _ _ ?_)
  simp only [go_sem, Nat.reduceEqDiff, Nat.reduceAdd, Nat.reduceSub, Nat.reduceLT, Nat.reduceBEq, Nat.reduceLeDiff, ↓reduceIte, Int.reduceToNat, Int.reduceLE, Int.reduceLT, Int.reduceEq, reduceCtorEq]
  refine brK_mk (fun g0 => ?_) (fun g0 => ?_) <;> simp only [go_sem, Nat.reduceEqDiff, Nat.reduceAdd, Nat.reduceSub, Nat.reduceLT, Nat.reduceBEq, Nat.reduceLeDiff, ↓reduceIte, Int.reduceToNat, Int.reduceLE, Int.reduceLT, Int.reduceEq, reduceCtorEq, g0]
  · have o := of_decide_eq_true g0; subst o
    exact ret_same ⟨rfl, rfl⟩
  have o0 := of_decide_eq_false g0
  refine brK_mk (fun g1 => ?_) (fun g1 => ?_) <;> simp only [go_sem, Nat.reduceEqDiff, Nat.reduceAdd, Nat.reduceSub, Nat.reduceLT, Nat.reduceBEq, Nat.reduceLeDiff, ↓reduceIte, Int.reduceToNat, Int.reduceLE, Int.reduceLT, Int.reduceEq, reduceCtorEq, g1]
  · have o := of_decide_eq_true g1; subst o
    exact ret_same ⟨rfl, rfl⟩
  have o1 := of_decide_eq_false g1
  refine brK_mk (fun g2 => ?_) (fun g2 => ?_) <;> simp only [go_sem, Nat.reduceEqDiff, Nat.reduceAdd, Nat.reduceSub, Nat.reduceLT, Nat.reduceBEq, Nat.reduceLeDiff, ↓reduceIte, Int.reduceToNat, Int.reduceLE, Int.reduceLT, Int.reduceEq, reduceCtorEq, g2]
  · have o := of_decide_eq_true g2; subst o
    exact ret_same ⟨rfl, rfl⟩
  have o2 := of_decide_eq_false g2
  refine brK_mk (fun g3 => ?_) (fun g3 => ?_) <;> simp only [go_sem, Nat.reduceEqDiff, Nat.reduceAdd, Nat.reduceSub, Nat.reduceLT, Nat.reduceBEq, Nat.reduceLeDiff, ↓reduceIte, Int.reduceToNat, Int.reduceLE, Int.reduceLT, Int.reduceEq, reduceCtorEq, g3]
  · have o := of_decide_eq_true g3; subst o
    refine brK_mk (fun g => ?_) (fun g => ?_) <;> simp only [go_sem, Nat.reduceEqDiff, Nat.reduceAdd, Nat.reduceSub, Nat.reduceLT, Nat.reduceBEq, Nat.reduceLeDiff, ↓reduceIte, Int.reduceToNat, Int.reduceLE, Int.reduceLT, Int.reduceEq, reduceCtorEq, g]
    · exact ret_same ⟨by simp [primG, of_decide_eq_true g], rfl⟩
    · have hb := of_decide_eq_false g
      refine ⟨hb, ?_⟩
      exact ret_same ⟨by simp [primG, hb, w64], rfl⟩
  have o3 := of_decide_eq_false g3
  refine brK_mk (fun g4 => ?_) (fun g4 => ?_) <;> simp only [go_sem, Nat.reduceEqDiff, Nat.reduceAdd, Nat.reduceSub, Nat.reduceLT, Nat.reduceBEq, Nat.reduceLeDiff, ↓reduceIte, Int.reduceToNat, Int.reduceLE, Int.reduceLT, Int.reduceEq, reduceCtorEq, g4]
  · have o := of_decide_eq_true g4; subst o
    refine brK_mk (fun g => ?_) (fun g => ?_) <;> simp only [go_sem, Nat.reduceEqDiff, Nat.reduceAdd, Nat.reduceSub, Nat.reduceLT, Nat.reduceBEq, Nat.reduceLeDiff, ↓reduceIte, Int.reduceToNat, Int.reduceLE, Int.reduceLT, Int.reduceEq, reduceCtorEq, g]
    · exact ret_same ⟨by simp [primG, of_decide_eq_true g], rfl⟩
    · have hb0 := of_decide_eq_false g
      refine ⟨hb0, ?_⟩
      refine ret_same ⟨?_, rfl⟩
      have := w64_mod ha hb hb0
      unfold w64 at this
      rw [this]
      simp [primG, hb0]
  have o4 := of_decide_eq_false g4
  refine brK_mk (fun g5 => ?_) (fun g5 => ?_) <;> simp only [go_sem, Nat.reduceEqDiff, Nat.reduceAdd, Nat.reduceSub, Nat.reduceLT, Nat.reduceBEq, Nat.reduceLeDiff, ↓reduceIte, Int.reduceToNat, Int.reduceLE, Int.reduceLT, Int.reduceEq, reduceCtorEq, g5]
  · have o := of_decide_eq_true g5; subst o
    refine brK_mk (fun g => ?_) (fun g => ?_) <;> simp only [go_sem, Nat.reduceEqDiff, Nat.reduceAdd, Nat.reduceSub, Nat.reduceLT, Nat.reduceBEq, Nat.reduceLeDiff, ↓reduceIte, Int.reduceToNat, Int.reduceLE, Int.reduceLT, Int.reduceEq, reduceCtorEq, g]
    · exact ret_same ⟨by simp [primG, of_decide_eq_true g], rfl⟩
    · exact ret_same ⟨by simp [primG, of_decide_eq_false g], rfl⟩
  have o5 := of_decide_eq_false g5
  refine brK_mk (fun g => ?_) (fun g => ?_) <;> simp only [go_sem, Nat.reduceEqDiff, Nat.reduceAdd, Nat.reduceSub, Nat.reduceLT, Nat.reduceBEq, Nat.reduceLeDiff, ↓reduceIte, Int.reduceToNat, Int.reduceLE, Int.reduceLT, Int.reduceEq, reduceCtorEq, g]
  · exact ret_same ⟨by simp [primG, o0, o1, o2, o3, o4, o5, of_decide_eq_true g], rfl⟩
  · exact ret_same ⟨by simp [primG, o0, o1, o2, o3, o4, o5, of_decide_eq_false g], rfl⟩
theorem rpositive_calls (b : Nat) (p : ProgG) (fuel : Int) (s : RS) (t : Int) (h0 : 0 ≤ t) (h1 : t ≤ p.ds.length) (hp : Hp) (hb : hp.blk b = some (100, s.cs p fuel)) :
    ACalls Tryz.prog 148 [ptr0 b, .v (.int .i64 t)] hp (fun r hp' => r = .v (.bool (plusB p.ds t)) ∧ hp' = hp) := by
  refine acalls_of Tryz.func148 rfl (by decide +kernel) (awp_sound (mu := []) _ _ _ ?_)
  simp only [RS.cs] at hb
  simp only [go_sem, Nat.reduceEqDiff, Nat.reduceAdd, Nat.reduceSub, Nat.reduceLT, Nat.reduceBEq, Nat.reduceLeDiff, ↓reduceIte, Int.reduceToNat, Int.reduceLE, Int.reduceLT, Int.reduceEq, reduceCtorEq, ptr0, hb]
  have c := fun hp => rcodata_calls p.hd p.ds t hp
  simp only [declsAV] at c
  refine callX_by (c _) ?_
  rintro r hp1 ⟨rfl, rfl⟩
  simp only [go_sem, Nat.reduceEqDiff, Nat.reduceAdd, Nat.reduceSub, Nat.reduceLT, Nat.reduceBEq, Nat.reduceLeDiff, ↓reduceIte, Int.reduceToNat, Int.reduceLE, Int.reduceLT, Int.reduceEq, reduceCtorEq]
  exact ret_same ⟨by rw [plus_cod h0 h1]; rfl, rfl⟩
end Go.Proofs.YtkoachnlimebaaaGreatDoor
/- The reference of direct evaluation: environments, the types that a term binds. -/
set_option linter.unusedSimpArgs false
set_option linter.unusedVariables false
set_option maxRecDepth 20000
set_option maxHeartbeats 4000000
namespace Go.Proofs.YtkoachnlimebaaaGreatDoor
open Go.AL

theorem QV.ones {v : ValG} {cs : List AV} (h : QV v cs) : ∃ a0 a1 a2 a3 a4 a5, cs = [a0, a1, a2, a3, a4, a5] ∧ One a0 ∧ One a1 ∧ One a2 ∧ One a3 ∧ One a4 ∧ One a5 := by
  cases h with
  | int n => exact ⟨_, _, _, _, _, _, rfl, ⟨rfl, rfl⟩, ⟨rfl, rfl⟩, ⟨rfl, rfl⟩, ⟨rfl, rfl⟩, ⟨rfl, rfl⟩, ⟨rfl, rfl⟩⟩
  | con ty n args h gs ha => exact ⟨_, _, _, _, _, _, rfl, ⟨rfl, rfl⟩, ⟨rfl, rfl⟩, ⟨rfl, rfl⟩, ⟨rfl, rfl⟩, ⟨rfl, rfl⟩, ⟨rfl, rfl⟩⟩
  | obj t e ea he => exact ⟨_, _, _, _, _, _, rfl, ⟨rfl, rfl⟩, ⟨rfl, rfl⟩, ⟨rfl, rfl⟩, ⟨rfl, rfl⟩, ⟨rfl, rfl⟩, he.o⟩
theorem QB.ones {b : BndG} {cs : List AV} (h : QB b cs) : ∃ a0 a1 a2 a3 a4 a5 a6 a7 a8 a9 a10 a11 a12 a13, cs = [a0, a1, a2, a3, a4, a5, a6, a7, a8, a9, a10, a11, a12, a13] ∧ One a0 ∧ One a1 ∧ One a2 ∧ One a3 ∧ One a4 ∧ One a5 ∧ One a6 ∧ One a7 ∧ One a8 ∧ One a9 ∧ One a10 ∧ One a11 ∧ One a12 ∧ One a13 := by
  cases h with
  | val v cs h =>
    obtain ⟨a0, a1, a2, a3, a4, a5, rfl, o0, o1, o2, o3, o4, o5⟩ := h.ones
    exact ⟨_, _, _, _, _, _, _, _, _, _, _, _, _, _, rfl, ⟨rfl, rfl⟩, o0, o1, o2, o3, o4, o5, ⟨rfl, rfl⟩, ⟨rfl, rfl⟩, ⟨rfl, rfl⟩, ⟨rfl, rfl⟩, ⟨rfl, rfl⟩, ⟨rfl, rfl⟩, ⟨rfl, rfl⟩⟩
  | thunk t e ea he => exact ⟨_, _, _, _, _, _, _, _, _, _, _, _, _, _, rfl, ⟨rfl, rfl⟩, ⟨rfl, rfl⟩, ⟨rfl, rfl⟩, ⟨rfl, rfl⟩, ⟨rfl, rfl⟩, ⟨rfl, rfl⟩, ⟨rfl, rfl⟩, ⟨rfl, rfl⟩, ⟨rfl, rfl⟩, ⟨rfl, rfl⟩, ⟨rfl, rfl⟩, ⟨rfl, rfl⟩, ⟨rfl, rfl⟩, he.o⟩
theorem rextend_calls (e : EnvG) (ea : AV) (he : QE e ea) (hn : Value) (names : List Bytes) (h : Value) (l : List BndG) (gs : List AV) (hg : QBs l gs) (hl : l.length ≤ names.length) (h6 : l.length ≤ 100000) (hp : Hp) :
    ACalls Tryz.prog 44 [ea, strsAV hn names, .lst 14 h gs] hp (fun r hp' => QE (bindG e names l) r ∧ hp' = hp) := by
  have hal := hg.len
  refine acalls_of Tryz.func44 rfl (by decide +kernel) (awp_sound (mu := []) _ _ _ ?_)
  simp only [go_sem, Nat.reduceEqDiff, Nat.reduceAdd, Nat.reduceSub, Nat.reduceLT, Nat.reduceMul, Nat.reduceBEq, Nat.reduceLeDiff, ↓reduceIte, Int.reduceToNat, Nat.reduceGT, Int.reduceLE, Int.reduceLT, Int.reduceGE, Int.reduceGT, Int.reduceEq, Int.reduceNe, reduceCtorEq, strsAV, hal]
  refine aw_loopX 26 (fun y : Nat × EnvG × AV => [(0, y.2.2), (1, .lst 1 hn (names.map fun s => .v (.string (bs s)))), (9, .lst 14 h gs), (10, .v (.int .i64 l.length)), (11, .v (.int .i64 y.1))])
    (fun _ => hp) (fun y => y.1 ≤ l.length ∧ QE y.2.1 y.2.2 ∧ bindG e names l = bindG y.2.1 (names.drop y.1) (l.drop y.1)) (fun y => l.length - y.1) (0, e, ea) ⟨Nat.zero_le _, he, rfl⟩
    (le_mkSl rfl (Hp.le_refl _) (by simp [go_sem, strsAV])) ?_
  rintro ⟨k', e', ea'⟩ ⟨hk', he', hbi⟩
  simp only at hk' he' hbi
  refine awp_sound (mu := []) _ _ _ ?_
  simp only [go_sem, Nat.reduceEqDiff, Nat.reduceAdd, Nat.reduceSub, Nat.reduceLT, Nat.reduceMul, Nat.reduceBEq, Nat.reduceLeDiff, ↓reduceIte, Int.reduceToNat, Nat.reduceGT, Int.reduceLE, Int.reduceLT, Int.reduceGE, Int.reduceGT, Int.reduceEq, Int.reduceNe, reduceCtorEq]
  refine brK_mk (fun h1 => ?_) (fun h1 => ?_) <;> simp only [go_sem, Nat.reduceEqDiff, Nat.reduceAdd, Nat.reduceSub, Nat.reduceLT, Nat.reduceMul, Nat.reduceBEq, Nat.reduceLeDiff, ↓reduceIte, Int.reduceToNat, Nat.reduceGT, Int.reduceLE, Int.reduceLT, Int.reduceGE, Int.reduceGT, Int.reduceEq, Int.reduceNe, reduceCtorEq, h1]
  · have hlt : k' < l.length := by simpa using h1
    obtain ⟨x, hx⟩ := someAt names k' (by omega)
    obtain ⟨g0, hg0⟩ := someAt l k' hlt
    obtain ⟨cs, hgs, p0⟩ := hg.at hg0
    have hwu : IntKind.i64.wrap ((k' : Int) + 1) = ((k' + 1 : Nat) : Int) := IntWalk.i64_in _ (by omega)
    obtain ⟨a0, a1, a2, a3, a4, a5, a6, a7, a8, a9, a10, a11, a12, a13, rfl, o0, o1, o2, o3, o4, o5, o6, o7, o8, o9, o10, o11, o12, o13⟩ := p0.ones
    have ec := ((AV.cells.eq_1 _).symm.trans he'.o.cells)
    simp only [go_sem, Nat.reduceEqDiff, Nat.reduceAdd, Nat.reduceSub, Nat.reduceLT, Nat.reduceMul, Nat.reduceBEq, Nat.reduceLeDiff, ↓reduceIte, Int.reduceToNat, Nat.reduceGT, Int.reduceLE, Int.reduceLT, Int.reduceGE, Int.reduceGT, Int.reduceEq, Int.reduceNe, reduceCtorEq, hgs, ((AV.cells.eq_1 _).symm.trans o0.cells), o0.one, ((AV.cells.eq_1 _).symm.trans o1.cells), o1.one, ((AV.cells.eq_1 _).symm.trans o2.cells), o2.one, ((AV.cells.eq_1 _).symm.trans o3.cells), o3.one, ((AV.cells.eq_1 _).symm.trans o4.cells), o4.one, ((AV.cells.eq_1 _).symm.trans o5.cells), o5.one, ((AV.cells.eq_1 _).symm.trans o6.cells), o6.one, ((AV.cells.eq_1 _).symm.trans o7.cells), o7.one, ((AV.cells.eq_1 _).symm.trans o8.cells), o8.one, ((AV.cells.eq_1 _).symm.trans o9.cells), o9.one, ((AV.cells.eq_1 _).symm.trans o10.cells), o10.one, ((AV.cells.eq_1 _).symm.trans o11.cells), o11.one, ((AV.cells.eq_1 _).symm.trans o12.cells), o12.one, ((AV.cells.eq_1 _).symm.trans o13.cells), o13.one]
    intro v hv
    have hds := fun T cs => Hp.del_set _ _ T cs hv.1
    simp only [go_sem, Nat.reduceEqDiff, Nat.reduceAdd, Nat.reduceSub, Nat.reduceLT, Nat.reduceMul, Nat.reduceBEq, Nat.reduceLeDiff, ↓reduceIte, Int.reduceToNat, Nat.reduceGT, Int.reduceLE, Int.reduceLT, Int.reduceGE, Int.reduceGT, Int.reduceEq, Int.reduceNe, reduceCtorEq, hds]
    refine draw_by (mu := []) (fun _ => True) (.take 0 (.take 1 (.take 2 (.take 3 (.take 4 (.take 5 (.br 6 (.br 7 (.take 8 (.done)) (.stop)) (.stop)))))))) (by decide +kernel) trivial (by decide +kernel) (by decide +kernel) ?_
    simp only [go_sem, Nat.reduceEqDiff, Nat.reduceAdd, Nat.reduceSub, Nat.reduceLT, Nat.reduceMul, Nat.reduceBEq, Nat.reduceLeDiff, ↓reduceIte, Int.reduceToNat, Nat.reduceGT, Int.reduceLE, Int.reduceLT, Int.reduceGE, Int.reduceGT, Int.reduceEq, Int.reduceNe, reduceCtorEq, hwu, strAt _ _ _ hx, ec, he'.o.one, ((AV.cells.eq_1 _).symm.trans o0.cells), o0.one, ((AV.cells.eq_1 _).symm.trans o1.cells), o1.one, ((AV.cells.eq_1 _).symm.trans o2.cells), o2.one, ((AV.cells.eq_1 _).symm.trans o3.cells), o3.one, ((AV.cells.eq_1 _).symm.trans o4.cells), o4.one, ((AV.cells.eq_1 _).symm.trans o5.cells), o5.one, ((AV.cells.eq_1 _).symm.trans o6.cells), o6.one, ((AV.cells.eq_1 _).symm.trans o7.cells), o7.one, ((AV.cells.eq_1 _).symm.trans o8.cells), o8.one, ((AV.cells.eq_1 _).symm.trans o9.cells), o9.one, ((AV.cells.eq_1 _).symm.trans o10.cells), o10.one, ((AV.cells.eq_1 _).symm.trans o11.cells), o11.one, ((AV.cells.eq_1 _).symm.trans o12.cells), o12.one, ((AV.cells.eq_1 _).symm.trans o13.cells), o13.one]
    intro q3
    exact ⟨(k' + 1, .var x g0 e', _), by simp only; omega, ⟨by simp only; omega, .var _ _ _ _ _ q3 p0 he', by rw [hbi]; exact bindG_step hx hg0⟩, le_mkSl rfl (Hp.le_refl _) (by simp [go_sem, hwu])⟩
  · have hge : k' = l.length := by simp at h1; omega
    subst hge
    rw [List.drop_of_length_le (Nat.le_refl l.length), bindG_nil'] at hbi
    rw [hbi]
    exact ret_same ⟨he', rfl⟩
end Go.Proofs.YtkoachnlimebaaaGreatDoor
/- The reference of direct evaluation: the types of the arguments that a term binds. -/
set_option linter.unusedSimpArgs false
set_option linter.unusedVariables false
set_option maxRecDepth 20000
set_option maxHeartbeats 4000000
namespace Go.Proofs.YtkoachnlimebaaaGreatDoor
open Go.AL

theorem rtypes_calls (b : Nat) (p : ProgG) (fuel : Int) (s : RS) (t : TermG) {V L : Bytes → Bool} (ok : AppOk p V L t) (h2 : t.op ≠ 2) (hp : Hp) (hb : hp.blk b = some (100, s.cs p fuel)) :
    ACalls Tryz.prog 147 [ptr0 b, t.av] hp (fun r hp' => ∃ h, r = intsAV h (typesG p.ds p.fs t) ∧ hp' = hp) := by
  have hpr := runp_ok ok.pr
  have hdl := hpr.hdl
  have hn := ok.nd
  have hb0 := hb
  simp only [RS.cs] at hb
  refine acalls_addNil 3 1 ?_
  refine acalls_of Tryz.func147 rfl (by decide +kernel) (awp_sound (mu := []) _ _ _ ?_)
  simp only [go_sem, Nat.reduceEqDiff, Nat.reduceAdd, Nat.reduceSub, Nat.reduceLT, Nat.reduceBEq, Nat.reduceLeDiff, ↓reduceIte, Int.reduceToNat, Int.reduceLE, Int.reduceLT, Int.reduceEq, reduceCtorEq, TermG.av, TermG.cs_eq, ptr0]
  intro q
  have conX : (t.op = 4 ∨ t.op = 6) → typesG p.ds p.fs t = prodsX (xtorAt p.ds t.ty t.n) := fun o => by rw [typesG, if_pos o]
  have prods : ∀ (o : t.op = 4 ∨ t.op = 6), ∃ d x, 1 ≤ t.ty ∧ t.ty ≤ p.ds.length ∧ p.ds[(t.ty - 1).toNat]? = some d ∧ 0 ≤ t.n ∧ t.n < d.xtors.length ∧ d.xtors[t.n.toNat]? = some x ∧ xtorAt p.ds t.ty t.n = x := fun o => app_xtor hn o
  rcases ok.ap with o | o | o | o | o
  · exact absurd o h2
  · obtain ⟨d, x, ht1, ht2, hd, hn0, hn1, hx, hxa⟩ := prods (.inl o)
    have hwt : IntKind.i64.wrap (t.ty - 1) = t.ty - 1 := IntWalk.i64_in _ (by omega)
    have hxl := hpr.hsm d (List.mem_of_getElem? hd) x (List.mem_of_getElem? hx)
    have cp := fun hp => rproducers_calls x hxl hp
    simp only [XtorG.av, XtorG.cs] at cp
    simp only [go_sem, Nat.reduceEqDiff, Nat.reduceAdd, Nat.reduceSub, Nat.reduceLT, Nat.reduceBEq, Nat.reduceLeDiff, ↓reduceIte, Int.reduceToNat, Int.reduceLE, Int.reduceLT, Int.reduceEq, reduceCtorEq, o, decide_false, decide_true]
    refine draw_by (mu := []) (fun h => h.blk b = some (100, s.cs p fuel)) (.take 0 (.take 1 (.take 2 (.take 3 (.take 4 (.take 5 (.take 6 (.take 7 (.take 8 (.take 9 (.take 10 (.take 11 (.take 12 (.take 13 (.take 14 (.br 15 (.take 16 (.done)) (.stop))))))))))))))))) (by decide +kernel) hb0 (by decide +kernel) (by decide +kernel) ?_
    simp only [go_sem, Nat.reduceEqDiff, Nat.reduceAdd, Nat.reduceSub, Nat.reduceLT, Nat.reduceBEq, Nat.reduceLeDiff, ↓reduceIte, Int.reduceToNat, Int.reduceLE, Int.reduceLT, Int.reduceEq, reduceCtorEq, hb, hwt, mapAt DeclG.av _ _ _ hd, DeclG.av, DeclG.cs, mapAt XtorG.av _ _ _ hx, XtorG.av, XtorG.cs]
    refine ⟨fun h e => by rw [e]; simp only [go_sem, Nat.reduceEqDiff, Nat.reduceAdd, Nat.reduceSub, Nat.reduceLT, Nat.reduceBEq, Nat.reduceLeDiff, ↓reduceIte, Int.reduceToNat, Int.reduceLE, Int.reduceLT, Int.reduceEq, reduceCtorEq, RS.cs], by omega, fun _ _ => by omega, hn0, fun _ _ => hn0, ?_⟩
    refine callX_by (cp _) ?_
    rintro r hp1 ⟨h, rfl, rfl⟩
    simp only [go_sem, Nat.reduceEqDiff, Nat.reduceAdd, Nat.reduceSub, Nat.reduceLT, Nat.reduceBEq, Nat.reduceLeDiff, ↓reduceIte, Int.reduceToNat, Int.reduceLE, Int.reduceLT, Int.reduceEq, reduceCtorEq]
    refine ⟨hb0, ?_⟩
    refine ret_le (hp' := hp) ⟨fun _ _ h => h, fun _ _ h => h, (List.sublist_cons_self _ _).trans (List.sublist_cons_self _ _), fun _ h => h⟩ ⟨h, ?_, rfl⟩
    rw [conX (.inl o), hxa]
  · obtain ⟨d, x, ht1, ht2, hd, hn0, hn1, hx, hxa⟩ := prods (.inr o)
    have hwt : IntKind.i64.wrap (t.ty - 1) = t.ty - 1 := IntWalk.i64_in _ (by omega)
    have hxl := hpr.hsm d (List.mem_of_getElem? hd) x (List.mem_of_getElem? hx)
    have cp := fun hp => rproducers_calls x hxl hp
    simp only [XtorG.av, XtorG.cs] at cp
    simp only [go_sem, Nat.reduceEqDiff, Nat.reduceAdd, Nat.reduceSub, Nat.reduceLT, Nat.reduceBEq, Nat.reduceLeDiff, ↓reduceIte, Int.reduceToNat, Int.reduceLE, Int.reduceLT, Int.reduceEq, reduceCtorEq, o, decide_false, decide_true]
    refine draw_by (mu := []) (fun h => h.blk b = some (100, s.cs p fuel)) (.take 0 (.take 1 (.take 2 (.take 3 (.take 4 (.take 5 (.take 6 (.take 7 (.take 8 (.take 9 (.take 10 (.take 11 (.take 12 (.take 13 (.take 14 (.br 15 (.take 16 (.done)) (.stop))))))))))))))))) (by decide +kernel) hb0 (by decide +kernel) (by decide +kernel) ?_
    simp only [go_sem, Nat.reduceEqDiff, Nat.reduceAdd, Nat.reduceSub, Nat.reduceLT, Nat.reduceBEq, Nat.reduceLeDiff, ↓reduceIte, Int.reduceToNat, Int.reduceLE, Int.reduceLT, Int.reduceEq, reduceCtorEq, hb, hwt, mapAt DeclG.av _ _ _ hd, DeclG.av, DeclG.cs, mapAt XtorG.av _ _ _ hx, XtorG.av, XtorG.cs]
    refine ⟨fun h e => by rw [e]; simp only [go_sem, Nat.reduceEqDiff, Nat.reduceAdd, Nat.reduceSub, Nat.reduceLT, Nat.reduceBEq, Nat.reduceLeDiff, ↓reduceIte, Int.reduceToNat, Int.reduceLE, Int.reduceLT, Int.reduceEq, reduceCtorEq, RS.cs], by omega, fun _ _ => by omega, hn0, fun _ _ => hn0, ?_⟩
    refine callX_by (cp _) ?_
    rintro r hp1 ⟨h, rfl, rfl⟩
    simp only [go_sem, Nat.reduceEqDiff, Nat.reduceAdd, Nat.reduceSub, Nat.reduceLT, Nat.reduceBEq, Nat.reduceLeDiff, ↓reduceIte, Int.reduceToNat, Int.reduceLE, Int.reduceLT, Int.reduceEq, reduceCtorEq]
    refine ⟨hb0, ?_⟩
    refine ret_le (hp' := hp) ⟨fun _ _ h => h, fun _ _ h => h, (List.sublist_cons_self _ _).trans (List.sublist_cons_self _ _), fun _ h => h⟩ ⟨h, ?_, rfl⟩
    rw [conX (.inr o), hxa]
  · simp only [go_sem, Nat.reduceEqDiff, Nat.reduceAdd, Nat.reduceSub, Nat.reduceLT, Nat.reduceBEq, Nat.reduceLeDiff, ↓reduceIte, Int.reduceToNat, Int.reduceLE, Int.reduceLT, Int.reduceEq, reduceCtorEq, o, decide_false, decide_true]
    refine ⟨rfl, by simp, fun hd => ?_⟩
    refine ret_le (Hp.le_trans (Hp.le_addSp _ (3, 1, .slice none 0 0)) (Hp.le_addSp _ (3, 1, hd))) ⟨hd, by simp [typesG, o, intsAV, iv], rfl⟩
  · obtain ⟨f, hf, hfl⟩ := (node_arity hn ok.ap).2.2.2 o
    have hn0 : 0 ≤ t.n := by simp [nodeB, o] at hn; omega
    have hfp := hpr.hfp f (List.mem_of_getElem? hf)
    have hty : typesG p.ds p.fs t = f.params.map ParamG.ty := by simp [typesG, o, hf]
    simp only [go_sem, Nat.reduceEqDiff, Nat.reduceAdd, Nat.reduceSub, Nat.reduceLT, Nat.reduceBEq, Nat.reduceLeDiff, ↓reduceIte, Int.reduceToNat, Int.reduceLE, Int.reduceLT, Int.reduceEq, reduceCtorEq, o, decide_false, decide_true]
    refine draw_by (mu := []) (fun h => h.blk b = some (100, s.cs p fuel)) (.take 0 (.take 1 (.take 2 (.take 3 (.take 4 (.take 5 (.take 6 (.take 7 (.take 8 (.take 9 (.take 10 (.take 11 (.done))))))))))))) (by decide +kernel) hb0 (by decide +kernel) (by decide +kernel) ?_
    simp only [go_sem, Nat.reduceEqDiff, Nat.reduceAdd, Nat.reduceSub, Nat.reduceLT, Nat.reduceBEq, Nat.reduceLeDiff, ↓reduceIte, Int.reduceToNat, Int.reduceLE, Int.reduceLT, Int.reduceEq, reduceCtorEq, hb, mapAt FunG.av _ _ _ hf, FunG.av, FunG.cs, paramsAV]
    refine ⟨fun h e => by rw [e]; simp only [go_sem, Nat.reduceEqDiff, Nat.reduceAdd, Nat.reduceSub, Nat.reduceLT, Nat.reduceBEq, Nat.reduceLeDiff, ↓reduceIte, Int.reduceToNat, Int.reduceLE, Int.reduceLT, Int.reduceEq, reduceCtorEq, RS.cs], hn0, fun _ _ => hn0, ?_⟩
    refine aw_loopX 56 (fun y : Nat × Value => [(5, intsAV y.2 ((f.params.take y.1).map ParamG.ty)), (43, .lst 2 f.hp (f.params.map ParamG.av)), (44, .v (.int .i64 f.params.length)), (45, .v (.int .i64 y.1))])
      (fun y => hp.setSp ((3, 1, y.2) :: hp.sp)) (fun y => y.1 ≤ f.params.length) (fun y => f.params.length - y.1) (0, .slice none 0 0) (Nat.zero_le _) (le_of_cast rfl (Hp.le_refl _) (by simp [go_sem, Cast.refl, intsAV]; exact Cast.nil 1)) ?_
    rintro ⟨k, h3⟩ hk
    simp only at hk
    refine awp_sound (mu := []) _ _ _ ?_
    simp only [go_sem, Nat.reduceEqDiff, Nat.reduceAdd, Nat.reduceSub, Nat.reduceLT, Nat.reduceBEq, Nat.reduceLeDiff, ↓reduceIte, Int.reduceToNat, Int.reduceLE, Int.reduceLT, Int.reduceEq, reduceCtorEq, intsAV]
    refine brK_mk (fun h1 => ?_) (fun h1 => ?_) <;> simp only [go_sem, Nat.reduceEqDiff, Nat.reduceAdd, Nat.reduceSub, Nat.reduceLT, Nat.reduceBEq, Nat.reduceLeDiff, ↓reduceIte, Int.reduceToNat, Int.reduceLE, Int.reduceLT, Int.reduceEq, reduceCtorEq, h1]
    · have hk' : k < f.params.length := by simpa using h1
      obtain ⟨a, ha⟩ := someAt f.params k hk'
      have hwu : IntKind.i64.wrap ((k : Int) + 1) = ((k + 1 : Nat) : Int) := IntWalk.i64_in _ (by omega)
      have hta : f.params.take (k + 1) = f.params.take k ++ [a] := by rw [List.take_add_one, ha]; rfl
      simp only [go_sem, Nat.reduceEqDiff, Nat.reduceAdd, Nat.reduceSub, Nat.reduceLT, Nat.reduceBEq, Nat.reduceLeDiff, ↓reduceIte, Int.reduceToNat, Int.reduceLE, Int.reduceLT, Int.reduceEq, reduceCtorEq, mapAt ParamG.av _ _ _ ha, ParamG.av, ParamG.cs]
      intro v hv
      have hds := fun T cs => Hp.del_set _ _ T cs hv.1
      simp only [go_sem, Nat.reduceEqDiff, Nat.reduceAdd, Nat.reduceSub, Nat.reduceLT, Nat.reduceBEq, Nat.reduceLeDiff, ↓reduceIte, Int.reduceToNat, Int.reduceLE, Int.reduceLT, Int.reduceEq, reduceCtorEq, hds]
      refine ⟨rfl, by simp, fun hd => ?_⟩
      refine append_by (a := intsAV h3 ((f.params.take k).map ParamG.ty)) (b := .lst 1 hd [iv a.ty]) (l1 := [(3, 1, hd)]) (l2 := hp.sp) (h := h3) (h2 := hd) Tryz.k26 Tryz.s3 Tryz.y3 Tryz.z3 rfl (by decide)
        (by simp [go_sem, intsAV]) (Cast.refl _) (by simp [go_sem, iv]) (Cast.refl _) (by simp [go_sem]) (by simp [go_sem, iv]) (by simp [maxLen]; omega) (by simp; omega) (by simp [go_sem]) (fun h' => ?_)
      simp only [go_sem, Nat.reduceEqDiff, Nat.reduceAdd, Nat.reduceSub, Nat.reduceLT, Nat.reduceBEq, Nat.reduceLeDiff, ↓reduceIte, Int.reduceToNat, Int.reduceLE, Int.reduceLT, Int.reduceEq, reduceCtorEq, hwu]
      exact ⟨(k + 1, h'), by simp only; omega, by simp only; omega, le_mkSl rfl ⟨fun _ _ h => h, fun _ _ h => h, List.sublist_cons_self _ _, fun _ h => h⟩ (by rw [hta]; simp [go_sem, hwu, intsAV])⟩
    · have e : k = f.params.length := by simp at h1; omega
      subst e
      rw [List.take_length]
      refine ret_le (Hp.le_addSp _ _) ⟨h3, ?_, rfl⟩
      rw [hty]
end Go.Proofs.YtkoachnlimebaaaGreatDoor
