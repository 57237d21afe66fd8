/- The law of direct evaluation: its fixed calls. -/
import Derived.Test.YtkoachnlimebaaaGreatDoorCY2
import Derived.Test.YtkoachnlimebaaaGreatDoorCT22
import Derived.Test.YtkoachnlimebaaaGreatDoorCShelfI
set_option linter.unusedSimpArgs false
set_option linter.unusedVariables false
set_option maxRecDepth 20000
set_option maxHeartbeats 4000000
namespace Go.Proofs.YtkoachnlimebaaaGreatDoor
open Go.AL

abbrev nilS : Value := .slice none 0 0
def nvA : AV := .v nilS
/-- A value in memory is a term. -/
structure TCast (a : AV) (t : TermG) : Prop where
  val : a.val = t.av.val
  ok : ∀ m, a.ok m → t.av.ok m
def tAV (op n : Int) (name : Bytes) (ty : Int) (a : AV) : AV := .agg [.v (.int .i64 op), .v (.int .i64 n), .v (.string (bs name)), .v (.int .i64 ty), a, nvA]
theorem tcast_leaf (op n : Int) (name : Bytes) (ty : Int) : TCast (tAV op n name ty nvA) (.mk op n name ty nilS [] nilS []) := by
  refine ⟨rfl, fun m h => ?_⟩
  simp only [TermG.av, TermG.cs_eq]
  exact ⟨trivial, trivial, trivial, trivial, (Cast.nil 6).2 m trivial, (Cast.nil 7).2 m trivial, trivial⟩
inductive TCasts : List AV → List TermG → Prop where
  | nil : TCasts [] []
  | cons (a : AV) (t : TermG) (l : List AV) (r : List TermG) (h : TCast a t) (hr : TCasts l r) : TCasts (a :: l) (t :: r)
theorem TCasts.vals : ∀ {l : List AV} {r : List TermG}, TCasts l r → AV.vals l = AV.vals (r.map TermG.av)
  | _, _, .nil => rfl
  | _, _, .cons a t l r h hr => by rw [AV.vals, List.map_cons, AV.vals, h.val, hr.vals]
theorem TCasts.oks : ∀ {l : List AV} {r : List TermG}, TCasts l r → ∀ m, AV.oks m l → AV.oks m (r.map TermG.av)
  | _, _, .nil, _, _ => trivial
  | _, _, .cons a t l r h hr, m, ho => ⟨h.ok m ho.1, hr.oks m ho.2⟩
theorem tcast_node {l : List AV} {r : List TermG} (h : TCasts l r) (op n : Int) (name : Bytes) (ty : Int) (hd : Value) : TCast (tAV op n name ty (.lst 6 hd l)) (.mk op n name ty hd r nilS []) := by
  refine ⟨rfl, fun m ho => ?_⟩
  obtain ⟨_, _, _, _, ⟨k1, k2⟩, _⟩ := ho
  simp only [TermG.av, TermG.cs_eq]
  refine ⟨trivial, trivial, trivial, trivial, ⟨?_, h.oks m k2⟩, (Cast.nil 7).2 m trivial, trivial⟩
  show Hdr m 6 hd (AV.vals (r.map TermG.av))
  rw [← h.vals]; exact k1
def dProg (h : Value) (t : TermG) : ProgG := ⟨nilS, [], h, [⟨[109, 97, 105, 110], nilS, [], 0, t⟩]⟩
def progV (h : Value) (op n : Int) (name : Bytes) (ty : Int) (a : AV) : AV := .agg [nvA, .lst 9 h [.agg [.v (.string (bs [109, 97, 105, 110])), nvA, .v (.int .i64 0), .v (.int .i64 op), .v (.int .i64 n), .v (.string (bs name)), .v (.int .i64 ty), a, nvA]]]
theorem dProg_cast {h : Value} {op n : Int} {name : Bytes} {ty : Int} {a : AV} {t : TermG} (ht : TCast (tAV op n name ty a) t) : (progV h op n name ty a).val = (dProg h t).av.val ∧ ∀ m, (progV h op n name ty a).ok m → (dProg h t).av.ok m := by
  have hv := ht.val
  simp only [tAV, TermG.av, TermG.cs_eq, AV.val, AV.vals, Value.agg.injEq] at hv
  refine ⟨rfl, fun m ho => ?_⟩
  obtain ⟨_, ⟨k1, ⟨_, _, _, k2, k3, k4, k5, k6, k7, _⟩, _⟩, _⟩ := ho
  have hk := ht.ok m ⟨k2, k3, k4, k5, k6, k7, trivial⟩
  simp only [TermG.av, TermG.cs_eq] at hk
  simp only [dProg, ProgG.av, ProgG.cs, declsAV, funsAV, List.map_cons, List.map_nil, FunG.av, FunG.cs, paramsAV]
  refine ⟨(Cast.nil 3).2 m trivial, ⟨?_, ⟨trivial, (Cast.nil 2).2 m trivial, trivial, hk⟩, trivial⟩, trivial⟩
  have he : AV.vals [AV.agg [.v (.string (bs [109, 97, 105, 110])), .lst 2 nilS [], .v (.int .i64 0), .v (.int .i64 t.op), .v (.int .i64 t.n), .v (.string (bs t.name)), .v (.int .i64 t.ty), .lst 6 t.ha (t.args.map TermG.av), .lst 7 t.hc (t.cls.map ClauseG.av)]] = AV.vals [AV.agg [.v (.string (bs [109, 97, 105, 110])), nvA, .v (.int .i64 0), .v (.int .i64 op), .v (.int .i64 n), .v (.string (bs name)), .v (.int .i64 ty), a, nvA]] := by
    simp only [AV.vals, AV.val]
    have := congrArg Array.toList hv
    simp only [List.cons.injEq] at this
    obtain ⟨e1, e2, e3, e4, e5, e6, _⟩ := this
    have e6' : t.hc = nilS := e6.symm
    rw [e1, e2, e3, e4, e5, e6']; rfl
  show Hdr m 9 h _
  rw [show AV.vals [AV.agg (AV.v (.string (bs [109, 97, 105, 110])) :: .lst 2 nilS [] :: .v (.int .i64 0) :: [.v (.int .i64 t.op), .v (.int .i64 t.n), .v (.string (bs t.name)), .v (.int .i64 t.ty), .lst 6 t.ha (t.args.map TermG.av), .lst 7 t.hc (t.cls.map ClauseG.av)])] = _ from he]
  exact k1
def dInt (n : Int) : TermG := .mk 1 n [] 0 nilS [] nilS []
def dLab (h13 h15 h17 : Value) : TermG := .mk 11 0 [107] 0 h17 [.mk 2 0 [] 0 h15 [dInt 1, .mk 12 0 [107] 0 h13 [dInt 5] nilS []] nilS []] nilS []
def dCall : TermG := .mk 9 0 [] 0 nilS [] nilS []
def dEmit (h62 : Value) : TermG := .mk 10 0 [] 0 h62 [dInt 5, dInt 5] nilS []
theorem e_lab (h h13 h15 h17 : Value) : runE (dProg h (dLab h13 h15 h17)) 100 [] = 0 ∧ runE (dProg h (dLab h13 h15 h17)) 20001 [] = 1 ∧ EndsG (dProg h (dLab h13 h15 h17)).ds (dProg h (dLab h13 h15 h17)).fs 100 (startG ⟨[109, 97, 105, 110], nilS, [], 0, dLab h13 h15 h17⟩ []) ⟨.gv (.int 5) .nil, [], 5, some (0, 5)⟩ :=
  ⟨by kernel_rfl, by kernel_rfl, rfl, 12, by kernel_rfl⟩
theorem e_call (h : Value) : runE (dProg h dCall) 3 [] = 0 ∧ EndsG (dProg h dCall).ds (dProg h dCall).fs 3 (startG ⟨[109, 97, 105, 110], nilS, [], 0, dCall⟩ []) ⟨.ev dCall .nil .nil, [], 3, some (1, 0)⟩ :=
  ⟨by kernel_rfl, rfl, 12, by kernel_rfl⟩
theorem e_emit (h h62 : Value) : runE (dProg h (dEmit h62)) 9 [] = 0 ∧ EndsG (dProg h (dEmit h62)).ds (dProg h (dEmit h62)).fs 9 (startG ⟨[109, 97, 105, 110], nilS, [], 0, dEmit h62⟩ []) ⟨.gv (.int 5) .nil, [5], 3, some (0, 5)⟩ :=
  ⟨by kernel_rfl, rfl, 12, by kernel_rfl⟩
/-- The program that 'main' gives. -/
theorem mk_calls (op n : Int) (name : Bytes) (ty : Int) (a : AV) (ha : One a) (hp : Hp) : ACalls Tryz.prog 32 [tAV op n name ty a] hp (fun r hp' => ∃ h, r = progV h op n name ty a ∧ hp' = hp.setSp ((66, 9, h) :: hp.sp)) := by
  refine acalls_of Tryz.func32 rfl (by decide +kernel) (awp_sound (mu := []) _ _ _ ?_)
  have e1 := ((AV.cells.eq_1 _).symm.trans ha.cells); have e2 := ha.one
  simp only [go_sem, Nat.reduceEqDiff, Nat.reduceAdd, Nat.reduceSub, Nat.reduceLT, Nat.reduceMul, Nat.reduceBEq, Nat.reduceLeDiff, ↓reduceIte, Int.reduceToNat, Nat.reduceGT, Int.reduceLE, Int.reduceLT, Int.reduceGE, Int.reduceGT, Int.reduceEq, Int.reduceNe, reduceCtorEq, tAV, nvA, e1, e2]
  intro q b hb
  refine ⟨rfl, ?_, fun hd => ?_⟩
  · intro x hx
    obtain rfl := List.mem_singleton.1 hx
    rfl
  · have hdd : ∀ sp T cs, ((hp.setBlk b T cs).setSp sp).delBlk b = hp.setSp sp := fun sp T cs => by
      rw [show ((hp.setBlk b T cs).setSp sp).delBlk b = ((hp.setBlk b T cs).delBlk b).setSp sp from rfl, Hp.del_set _ _ T cs hb.1]
    rw [hdd]
    exact ret_same ⟨hd, rfl, rfl⟩
end Go.Proofs.YtkoachnlimebaaaGreatDoor
/- The law of direct evaluation: its fixed calls walked. -/
set_option linter.unusedSimpArgs false
set_option linter.unusedVariables false
set_option maxRecDepth 20000
set_option maxHeartbeats 4000000
namespace Go.Proofs.YtkoachnlimebaaaGreatDoor
open Go.AL

def runAV (how val : Int) (h : Value) (outs : List Int) (steps : Int) : AV := .agg [.v (.int .i64 how), .v (.int .i64 val), .lst 1 h (outs.map iv), .v (.int .i64 steps)]
theorem rsame_calls (how val : Int) (ha : Value) (a : List Int) (steps how' val' : Int) (hb : Value) (b : List Int) (steps' : Int) (hp : Hp) : ACalls Tryz.prog 15 [runAV how val ha a steps, runAV how' val' hb b steps'] hp
    (fun r hp' => r = .v (.bool (decide (how = how') && (decide (val = val') && (decide (steps = steps') && decide (a = b))))) ∧ hp' = hp) := by
  refine acalls_of Tryz.func15 rfl (by decide +kernel) (awp_sound (mu := []) _ _ _ ?_)
  simp only [go_sem, Nat.reduceEqDiff, Nat.reduceAdd, Nat.reduceSub, Nat.reduceLT, Nat.reduceMul, Nat.reduceBEq, Nat.reduceLeDiff, ↓reduceIte, Int.reduceToNat, Nat.reduceGT, Int.reduceLE, Int.reduceLT, Int.reduceGE, Int.reduceGT, Int.reduceEq, Int.reduceNe, reduceCtorEq, runAV]
  intro q1 q2
  cases h1 : decide (how = how') with
  | false => simp only [go_sem, Nat.reduceEqDiff, Nat.reduceAdd, Nat.reduceSub, Nat.reduceLT, Nat.reduceMul, Nat.reduceBEq, Nat.reduceLeDiff, ↓reduceIte, Int.reduceToNat, Nat.reduceGT, Int.reduceLE, Int.reduceLT, Int.reduceGE, Int.reduceGT, Int.reduceEq, Int.reduceNe, reduceCtorEq, h1]; exact ret_same ⟨rfl, rfl⟩
  | true =>
    simp only [go_sem, Nat.reduceEqDiff, Nat.reduceAdd, Nat.reduceSub, Nat.reduceLT, Nat.reduceMul, Nat.reduceBEq, Nat.reduceLeDiff, ↓reduceIte, Int.reduceToNat, Nat.reduceGT, Int.reduceLE, Int.reduceLT, Int.reduceGE, Int.reduceGT, Int.reduceEq, Int.reduceNe, reduceCtorEq, h1]
    cases h2 : decide (val = val') with
    | false => simp only [go_sem, Nat.reduceEqDiff, Nat.reduceAdd, Nat.reduceSub, Nat.reduceLT, Nat.reduceMul, Nat.reduceBEq, Nat.reduceLeDiff, ↓reduceIte, Int.reduceToNat, Nat.reduceGT, Int.reduceLE, Int.reduceLT, Int.reduceGE, Int.reduceGT, Int.reduceEq, Int.reduceNe, reduceCtorEq, h2]; exact ret_same ⟨rfl, rfl⟩
    | true =>
      simp only [go_sem, Nat.reduceEqDiff, Nat.reduceAdd, Nat.reduceSub, Nat.reduceLT, Nat.reduceMul, Nat.reduceBEq, Nat.reduceLeDiff, ↓reduceIte, Int.reduceToNat, Nat.reduceGT, Int.reduceLE, Int.reduceLT, Int.reduceGE, Int.reduceGT, Int.reduceEq, Int.reduceNe, reduceCtorEq, h2]
      cases h3 : decide (steps = steps') with
      | false => simp only [go_sem, Nat.reduceEqDiff, Nat.reduceAdd, Nat.reduceSub, Nat.reduceLT, Nat.reduceMul, Nat.reduceBEq, Nat.reduceLeDiff, ↓reduceIte, Int.reduceToNat, Nat.reduceGT, Int.reduceLE, Int.reduceLT, Int.reduceGE, Int.reduceGT, Int.reduceEq, Int.reduceNe, reduceCtorEq, h3]; exact ret_same ⟨rfl, rfl⟩
      | true =>
        simp only [go_sem, Nat.reduceEqDiff, Nat.reduceAdd, Nat.reduceSub, Nat.reduceLT, Nat.reduceMul, Nat.reduceBEq, Nat.reduceLeDiff, ↓reduceIte, Int.reduceToNat, Nat.reduceGT, Int.reduceLE, Int.reduceLT, Int.reduceGE, Int.reduceGT, Int.reduceEq, Int.reduceNe, reduceCtorEq, h3]
        refine callX_by (sameInts_calls ha hb a b _) ?_
        rintro r hp1 ⟨rfl, rfl⟩
        simp only [go_sem, Nat.reduceEqDiff, Nat.reduceAdd, Nat.reduceSub, Nat.reduceLT, Nat.reduceMul, Nat.reduceBEq, Nat.reduceLeDiff, ↓reduceIte, Int.reduceToNat, Nat.reduceGT, Int.reduceLE, Int.reduceLT, Int.reduceGE, Int.reduceGT, Int.reduceEq, Int.reduceNe, reduceCtorEq]
        exact ret_same ⟨rfl, rfl⟩
theorem pfit_d (h : Value) (t : TermG) : PFit (dProg h t) := by
  intro f hf
  obtain rfl := List.mem_singleton.1 hf
  simp
/-- 'Run' of a fixed program, as it lies in memory. -/
theorem drun_calls {op n : Int} {name : Bytes} {ty : Int} {a : AV} {t : TermG} (ht : TCast (tAV op n name ty a) t) (h : Value) (fuel : Int) (hp : Hp) (hg : GOk hp) : ACalls Tryz.prog 12 [progV h op n name ty a, .v (.int .i64 fuel), .v nilS] hp (RunR (dProg h t) fuel [] hp) := by
  have hd := dProg_cast (h := h) ht
  refine acalls_cast ?_ ?_ (run_calls (dProg h t) (pfit_d h t) fuel nilS [] hp hg)
  · simp only [AV.vals, hd.1]; rfl
  · rintro m ⟨k1, k2, k3, _⟩
    exact ⟨hd.2 m k1, k2, (Cast.nil 1).2 m trivial, trivial⟩
theorem dvalue_calls {op n : Int} {name : Bytes} {ty : Int} {a : AV} {t : TermG} (ht : TCast (tAV op n name ty a) t) (h : Value) (fuel : Int) (hp : Hp) (hg : GOk hp) {N : Int → Prop} (hI : ItoaC hp.gl N) (hN : runE (dProg h t) fuel [] = 0 → NumsOf N (dProg h t) fuel []) : ACalls Tryz.prog 13 [progV h op n name ty a, .v (.int .i64 fuel), .v nilS] hp (ValueR (dProg h t) fuel [] hp) := by
  have hd := dProg_cast (h := h) ht
  refine acalls_cast ?_ ?_ (value_calls (dProg h t) (pfit_d h t) fuel nilS [] hp hg hI hN)
  · simp only [AV.vals, hd.1]; rfl
  · rintro m ⟨k1, k2, k3, _⟩
    exact ⟨hd.2 m k1, k2, (Cast.nil 1).2 m trivial, trivial⟩
theorem itoa5 (gl : List (Nat × List AV)) : ItoaC gl (fun n => n = 5) := by
  rintro n rfl
  refine ⟨by decide +kernel, fun hp' _ => ?_⟩
  refine acalls_below (callable_of Tryz.func39 (by decide +kernel)) (fun m _ => trivial) fun base m w hh hok => ?_
  refine (Tryz.strconv_Itoa_small 5 (by omega) w).mono ?_
  rintro e w' ⟨rfl, rfl⟩
  exact ⟨rfl, Go.RowKit.Below.refl _ _⟩
theorem nums_lab (h h13 h15 h17 : Value) : NumsOf (fun n => n = 5) (dProg h (dLab h13 h15 h17)) 100 [] := by
  intro f m how val hf he hm
  obtain rfl := Option.some.inj hf
  obtain rfl := he.unique (e_lab h h13 h15 h17).2.2
  simp only [Option.some.injEq, Prod.mk.injEq] at hm
  exact ⟨fun n hn => (by cases hn), fun _ => hm.2.symm⟩
theorem nums_emit (h h62 : Value) : NumsOf (fun n => n = 5) (dProg h (dEmit h62)) 9 [] := by
  intro f m how val hf he hm
  obtain rfl := Option.some.inj hf
  obtain rfl := he.unique (e_emit h h62).2
  simp only [Option.some.injEq, Prod.mk.injEq] at hm
  exact ⟨fun n hn => List.mem_singleton.1 hn, fun _ => hm.2.symm⟩
theorem drun_is {t : TermG} {h : Value} {fuel : Int} {hp hp' : Hp} {r : AV} (hr : RunR (dProg h t) fuel [] hp r hp') {m : MacG} (h0 : runE (dProg h t) fuel [] = 0) (he : EndsG (dProg h t).ds (dProg h t).fs fuel.toNat (startG ⟨[109, 97, 105, 110], nilS, [], 0, t⟩ []) m) :
    ∃ h' how val, m.fin = some (how, val) ∧ r = .tup [runAV how val h' m.outs m.steps, .v (.int .i64 0)] ∧ hp' = hp.setSp ((3, 1, h') :: hp.sp) := by
  obtain ⟨h', how, val, outs, steps, rfl, rfl, hz, -⟩ := hr
  obtain ⟨f, m', hf, hends, -, hfin, rfl, rfl⟩ := hz h0
  obtain rfl := Option.some.inj hf
  obtain rfl := hends.unique he
  exact ⟨h', how, val, hfin, by rw [h0]; rfl, rfl⟩
theorem dvalue_is {t : TermG} {h : Value} {fuel : Int} {hp hp' : Hp} {r : AV} (hr : ValueR (dProg h t) fuel [] hp r hp') {m : MacG} (h0 : runE (dProg h t) fuel [] = 0) (he : EndsG (dProg h t).ds (dProg h t).fs fuel.toNat (startG ⟨[109, 97, 105, 110], nilS, [], 0, t⟩ []) m) :
    ∃ how val, m.fin = some (how, val) ∧ r = .tup [.v (.string (bs (emitT m.outs ++ endT how val))), .v (.int .i64 0)] ∧ hp' = hp := by
  obtain ⟨rfl, s, rfl, -, hz⟩ := hr
  obtain ⟨f, m', how, val, hf, hends, -, hfin, rfl⟩ := hz h0
  obtain rfl := Option.some.inj hf
  obtain rfl := hends.unique he
  exact ⟨how, val, hfin, by rw [h0], rfl⟩
theorem lab_cast (h13 h15 h17 : Value) : TCast (tAV 11 0 [107] 0 (.lst 6 h17 [tAV 2 0 [] 0 (.lst 6 h15 [tAV 1 1 [] 0 nvA, tAV 12 0 [107] 0 (.lst 6 h13 [tAV 1 5 [] 0 nvA])])])) (dLab h13 h15 h17) :=
  tcast_node (.cons _ _ _ _ (tcast_node (.cons _ _ _ _ (tcast_leaf ..) (.cons _ _ _ _ (tcast_node (.cons _ _ _ _ (tcast_leaf ..) .nil) ..) .nil)) ..) .nil) ..
theorem emit_cast (h62 : Value) : TCast (tAV 10 0 [] 0 (.lst 6 h62 [tAV 1 5 [] 0 nvA, tAV 1 5 [] 0 nvA])) (dEmit h62) :=
  tcast_node (.cons _ _ _ _ (tcast_leaf ..) (.cons _ _ _ _ (tcast_leaf ..) .nil)) ..
theorem le_set {hp H : Hp} {b : Nat} {T : TypeId} {cs : List AV} (h : hp.le H) (hn : hp.blk b = none) : hp.le (H.setBlk b T cs) :=
  ⟨fun i x hi => by rw [Hp.setBlk_blk, if_neg (by rintro rfl; rw [hn] at hi; cases hi)]; exact h.blk i x hi, h.mp, h.sp, h.gl⟩
theorem sp_set (H : Hp) (b : Nat) (T : TypeId) (cs : List AV) (l : List (TypeId × Nat × Value)) : (H.setBlk b T cs).setSp l = (H.setSp l).setBlk b T cs := rfl
theorem awake_calls (hp : Hp) (hg : GOk hp) : ACalls Tryz.prog 11 [] hp (fun r hp' => r = .v (.bool true) ∧ hp' = hp) := by
  refine acalls_of Tryz.func11 rfl (by decide +kernel) (awp_sound (mu := [4]) _ _ _ ?_)
  simp only [go_sem, Nat.reduceEqDiff, Nat.reduceAdd, Nat.reduceSub, Nat.reduceLT, Nat.reduceMul, Nat.reduceBEq, Nat.reduceLeDiff, ↓reduceIte, Int.reduceToNat, Nat.reduceGT, Int.reduceLE, Int.reduceLT, Int.reduceGE, Int.reduceGT, Int.reduceEq, Int.reduceNe, reduceCtorEq]
  intro b2 hb2
  refine ⟨rfl, by simp [AV.cells], fun h13 => ⟨rfl, by simp [AV.cells], fun h15 => ⟨rfl, by simp [AV.cells], fun h17 => ?_⟩⟩⟩
  have hdd : ∀ b (T : TypeId) (cs : List AV), Fresh hp b → (hp.setBlk b T cs).delBlk b = hp := fun b T cs hb => Hp.del_set _ _ T cs hb.1
  rw [hdd _ _ _ hb2]
  refine callX_by (mk_calls 11 0 [107] 0 (.lst 6 h17 [tAV 2 0 [] 0 (.lst 6 h15 [tAV 1 1 [] 0 nvA, tAV 12 0 [107] 0 (.lst 6 h13 [tAV 1 5 [] 0 nvA])])]) ⟨rfl, rfl⟩ _) ?_
  rintro r hp1 ⟨h19, rfl, rfl⟩
  obtain ⟨H1, hH1, hl1, hg1⟩ : ∃ H, H = hp.setSp ((66, 9, h19) :: (64, 6, h17) :: (64, 6, h15) :: (64, 6, h13) :: hp.sp) ∧ hp.le H ∧ GOk H :=
    ⟨_, rfl, ⟨fun _ _ h => h, fun _ _ h => h, List.sublist_append_right [_, _, _, _] _, fun _ h => h⟩, hg⟩
  simp only [go_sem, Nat.reduceEqDiff, Nat.reduceAdd, Nat.reduceSub, Nat.reduceLT, Nat.reduceMul, Nat.reduceBEq, Nat.reduceLeDiff, ↓reduceIte, Int.reduceToNat, Nat.reduceGT, Int.reduceLE, Int.reduceLT, Int.reduceGE, Int.reduceGT, Int.reduceEq, Int.reduceNe, reduceCtorEq, progV, nvA, nilS]
  rw [← hH1]
  clear hH1
  intro b3 hb3
  rw [Hp.del_set H1 b3 _ _ hb3.1]
  refine callX_by (drun_calls (lab_cast h13 h15 h17) h19 100 _ hg1) ?_
  intro r hp2 hr
  obtain ⟨h22, how, val, hf, rfl, rfl⟩ := drun_is hr (e_lab h19 h13 h15 h17).1 (e_lab h19 h13 h15 h17).2.2
  obtain ⟨rfl, rfl⟩ : how = 0 ∧ val = 5 := by simp only [Option.some.injEq, Prod.mk.injEq] at hf; exact ⟨hf.1.symm, hf.2.symm⟩
  clear hf hr
  obtain ⟨H2, hH2, hl2, hg2⟩ : ∃ H, H = H1.setSp ((3, 1, h22) :: H1.sp) ∧ hp.le H ∧ GOk H :=
    ⟨_, rfl, Hp.le_trans hl1 ⟨fun _ _ h => h, fun _ _ h => h, List.sublist_cons_self _ _, fun _ h => h⟩, hg1⟩
  simp only [go_sem, Nat.reduceEqDiff, Nat.reduceAdd, Nat.reduceSub, Nat.reduceLT, Nat.reduceMul, Nat.reduceBEq, Nat.reduceLeDiff, ↓reduceIte, Int.reduceToNat, Nat.reduceGT, Int.reduceLE, Int.reduceLT, Int.reduceGE, Int.reduceGT, Int.reduceEq, Int.reduceNe, reduceCtorEq, runAV, List.map_nil]
  rw [← hH2]
  clear hH2
  intro b4 hb4
  have hn4 : hp.blk b4 = none := by
    cases h : hp.blk b4 with
    | none => rfl
    | some x => have h1 := hl2.blk _ _ h; rw [hb4.1] at h1; cases h1
  refine callX_by (dvalue_calls (lab_cast h13 h15 h17) h19 100 _ hg2 (itoa5 _) (fun _ => nums_lab h19 h13 h15 h17)) ?_
  intro r hp3 hr
  obtain ⟨how, val, hf, rfl, hq3⟩ := dvalue_is hr (e_lab h19 h13 h15 h17).1 (e_lab h19 h13 h15 h17).2.2
  rw [hq3]
  obtain ⟨rfl, rfl⟩ : how = 0 ∧ val = 5 := by simp only [Option.some.injEq, Prod.mk.injEq] at hf; exact ⟨hf.1.symm, hf.2.symm⟩
  clear hf hr hq3
  rw [show emitT [] ++ endT 0 5 = [100, 111, 110, 101, 32, 53] from by decide +kernel]
  simp only [go_sem, Nat.reduceEqDiff, Nat.reduceAdd, Nat.reduceSub, Nat.reduceLT, Nat.reduceMul, Nat.reduceBEq, Nat.reduceLeDiff, ↓reduceIte, Int.reduceToNat, Nat.reduceGT, Int.reduceLE, Int.reduceLT, Int.reduceGE, Int.reduceGT, Int.reduceEq, Int.reduceNe, reduceCtorEq]
  refine callX_by (acalls_cast (args := [runAV 0 5 h22 [] 5, runAV 0 5 nilS [] 5]) rfl (fun m ho => ⟨ho.1, ⟨trivial, trivial, (Cast.nil 1).2 m trivial, trivial, trivial⟩, trivial⟩) (rsame_calls 0 5 h22 [] 5 0 5 nilS [] 5 _)) ?_
  rintro r hp3 ⟨rfl, hq3⟩
  rw [hq3]
  clear hq3
  simp only [go_sem, Nat.reduceEqDiff, Nat.reduceAdd, Nat.reduceSub, Nat.reduceLT, Nat.reduceMul, Nat.reduceBEq, Nat.reduceLeDiff, ↓reduceIte, Int.reduceToNat, Nat.reduceGT, Int.reduceLE, Int.reduceLT, Int.reduceGE, Int.reduceGT, Int.reduceEq, Int.reduceNe, reduceCtorEq]
  refine callX_by (mk_calls 9 0 [] 0 nvA ⟨rfl, rfl⟩ _) ?_
  rintro r hp4 ⟨h49, rfl, rfl⟩
  obtain ⟨H3, hH3, hl3, hg3⟩ : ∃ H, H = H2.setSp ((66, 9, h49) :: H2.sp) ∧ hp.le H ∧ GOk H :=
    ⟨_, rfl, Hp.le_trans hl2 ⟨fun _ _ h => h, fun _ _ h => h, List.sublist_cons_self _ _, fun _ h => h⟩, hg2⟩
  simp only [go_sem, Nat.reduceEqDiff, Nat.reduceAdd, Nat.reduceSub, Nat.reduceLT, Nat.reduceMul, Nat.reduceBEq, Nat.reduceLeDiff, ↓reduceIte, Int.reduceToNat, Nat.reduceGT, Int.reduceLE, Int.reduceLT, Int.reduceGE, Int.reduceGT, Int.reduceEq, Int.reduceNe, reduceCtorEq, progV, nvA, nilS]
  rw [sp_set, ← hH3]
  clear hH3
  refine callX_by (drun_calls (tcast_leaf ..) h49 3 _ hg3) ?_
  intro r hp5 hr
  obtain ⟨h50, how, val, hf, rfl, rfl⟩ := drun_is (t := dCall) hr (e_call h49).1 (e_call h49).2
  obtain ⟨rfl, rfl⟩ : how = 1 ∧ val = 0 := by simp only [Option.some.injEq, Prod.mk.injEq] at hf; exact ⟨hf.1.symm, hf.2.symm⟩
  clear hf hr
  obtain ⟨H4, hH4, hl4, hg4⟩ : ∃ H, H = H3.setSp ((3, 1, h50) :: H3.sp) ∧ hp.le H ∧ GOk H :=
    ⟨_, rfl, Hp.le_trans hl3 ⟨fun _ _ h => h, fun _ _ h => h, List.sublist_cons_self _ _, fun _ h => h⟩, hg3⟩
  simp only [go_sem, Nat.reduceEqDiff, Nat.reduceAdd, Nat.reduceSub, Nat.reduceLT, Nat.reduceMul, Nat.reduceBEq, Nat.reduceLeDiff, ↓reduceIte, Int.reduceToNat, Nat.reduceGT, Int.reduceLE, Int.reduceLT, Int.reduceGE, Int.reduceGT, Int.reduceEq, Int.reduceNe, reduceCtorEq, runAV, List.map_nil, sp_set, Hp.set_set]
  rw [← hH4]
  clear hH4
  refine callX_by (drun_calls (lab_cast h13 h15 h17) h19 20001 _ hg4) ?_
  rintro r hp6 ⟨h55, how', val', outs', steps', rfl, rfl, -, -⟩
  rw [(e_lab h19 h13 h15 h17).2.1]
  simp only [go_sem, Nat.reduceEqDiff, Nat.reduceAdd, Nat.reduceSub, Nat.reduceLT, Nat.reduceMul, Nat.reduceBEq, Nat.reduceLeDiff, ↓reduceIte, Int.reduceToNat, Nat.reduceGT, Int.reduceLE, Int.reduceLT, Int.reduceGE, Int.reduceGT, Int.reduceEq, Int.reduceNe, reduceCtorEq]
  refine ⟨rfl, by simp [AV.cells], fun h62 => ?_⟩
  refine callX_by (mk_calls 10 0 [] 0 (.lst 6 h62 [tAV 1 5 [] 0 nvA, tAV 1 5 [] 0 nvA]) ⟨rfl, rfl⟩ _) ?_
  rintro r hp7 ⟨h64, rfl, rfl⟩
  simp only [go_sem, Nat.reduceEqDiff, Nat.reduceAdd, Nat.reduceSub, Nat.reduceLT, Nat.reduceMul, Nat.reduceBEq, Nat.reduceLeDiff, ↓reduceIte, Int.reduceToNat, Nat.reduceGT, Int.reduceLE, Int.reduceLT, Int.reduceGE, Int.reduceGT, Int.reduceEq, Int.reduceNe, reduceCtorEq, progV, nvA, nilS, sp_set]
  obtain ⟨H5, hH5, hl5, hg5⟩ : ∃ H, H = H4.setSp ((66, 9, h64) :: (64, 6, h62) :: (3, 1, h55) :: H4.sp) ∧ hp.le H ∧ GOk H :=
    ⟨_, rfl, Hp.le_trans hl4 ⟨fun _ _ h => h, fun _ _ h => h, List.sublist_append_right [_, _, _] _, fun _ h => h⟩, hg4⟩
  rw [← hH5]
  clear hH5
  have hg6 : GOk (H5.setBlk b4 30 [.v (.int .i64 1), .v (.int .i64 0), .lst 1 h50 [], .v (.int .i64 3)]) := hg5
  refine callX_by (dvalue_calls (emit_cast h62) h64 9 _ hg6 (itoa5 _) (fun _ => nums_emit h64 h62)) ?_
  intro r hp8 hr
  obtain ⟨how, val, hf, rfl, hq8⟩ := dvalue_is hr (e_emit h64 h62).1 (e_emit h64 h62).2
  rw [hq8]
  obtain ⟨rfl, rfl⟩ : how = 0 ∧ val = 5 := by simp only [Option.some.injEq, Prod.mk.injEq] at hf; exact ⟨hf.1.symm, hf.2.symm⟩
  clear hf hr hq8
  rw [show emitT [5] ++ endT 0 5 = [101, 109, 105, 116, 32, 53, 44, 32, 100, 111, 110, 101, 32, 53] from by decide +kernel]
  simp only [go_sem, Nat.reduceEqDiff, Nat.reduceAdd, Nat.reduceSub, Nat.reduceLT, Nat.reduceMul, Nat.reduceBEq, Nat.reduceLeDiff, ↓reduceIte, Int.reduceToNat, Nat.reduceGT, Int.reduceLE, Int.reduceLT, Int.reduceGE, Int.reduceGT, Int.reduceEq, Int.reduceNe, reduceCtorEq]
  refine callX_by (acalls_cast (args := [runAV 1 0 h50 [] 3, runAV 1 0 nilS [] 3]) rfl (fun m ho => ⟨ho.1, ⟨trivial, trivial, (Cast.nil 1).2 m trivial, trivial, trivial⟩, trivial⟩) (rsame_calls 1 0 h50 [] 3 1 0 nilS [] 3 _)) ?_
  rintro r hp9 ⟨rfl, hq9⟩
  rw [hq9]
  clear hq9
  simp only [go_sem, Nat.reduceEqDiff, Nat.reduceAdd, Nat.reduceSub, Nat.reduceLT, Nat.reduceMul, Nat.reduceBEq, Nat.reduceLeDiff, ↓reduceIte, Int.reduceToNat, Nat.reduceGT, Int.reduceLE, Int.reduceLT, Int.reduceGE, Int.reduceGT, Int.reduceEq, Int.reduceNe, reduceCtorEq]
  exact ret_le (hp' := hp) (le_set hl5 hn4) ⟨rfl, rfl⟩
end Go.Proofs.YtkoachnlimebaaaGreatDoor
