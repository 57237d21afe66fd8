/- The reference of the layer 'term': shapes. -/
import Derived.Test.YtkoachnlimebaaaGreatDoorCT22
set_option linter.unusedSimpArgs false
set_option linter.unusedVariables false
set_option maxRecDepth 20000
set_option maxHeartbeats 4000000
namespace Go.Proofs.YtkoachnlimebaaaGreatDoor
open Go.AL

structure ShapeG where
  name : Bool
  typ : Bool
  n : Bool
  args : Nat
  cls : Nat
def ShapeG.cs (s : ShapeG) : List AV := [.v (.bool s.name), .v (.bool s.typ), .v (.bool s.n), .v (.int .i64 s.args), .v (.int .i64 s.cls)]
def shapeS (ds : List DeclG) (pf : List Nat) (t : TermG) : Option ShapeG :=
  if t.op = 0 then some ⟨true, false, false, 0, 0⟩
  else if t.op = 1 then some ⟨false, false, true, 0, 0⟩
  else if t.op = 2 then (if (decide (t.n ≥ 0) && decide (t.n ≤ 6)) = true then some ⟨false, false, true, 2, 0⟩ else none)
  else if t.op = 3 then some ⟨false, false, false, 3, 0⟩
  else if t.op = 4 then (if (dataB ds t.ty false && hasN ds t.ty t.n) = true then some ⟨false, true, true, (xtorAt ds t.ty t.n).args.length, 0⟩ else none)
  else if t.op = 5 then (if dataB ds t.ty false = true then some ⟨false, true, false, 1, (xtorsOf ds t.ty).length⟩ else none)
  else if t.op = 6 then (if (dataB ds t.ty true && hasN ds t.ty t.n) = true then some ⟨false, true, true, 1 + prodN (xtorAt ds t.ty t.n), 0⟩ else none)
  else if t.op = 7 then (if dataB ds t.ty true = true then some ⟨false, true, false, 0, (xtorsOf ds t.ty).length⟩ else none)
  else if t.op = 8 then some ⟨true, true, false, 2, 0⟩
  else if t.op = 9 then (if (decide (t.n < 0) || decide (t.n ≥ (pf.length : Int))) = true then none else some ⟨false, false, true, (pf[t.n.toNat]?).getD 0, 0⟩)
  else if t.op = 10 then some ⟨false, false, false, 2, 0⟩
  else if t.op = 11 then some ⟨true, true, false, 1, 0⟩
  else if t.op = 12 then some ⟨true, true, false, 1, 0⟩
  else none
def ShapeR (s : Option ShapeG) (hp : Hp) (r : AV) (hp' : Hp) : Prop :=
  hp' = hp ∧ match s with
  | some s => r = .tup [.agg s.cs, .v (.bool true)]
  | none => ∃ s : ShapeG, r = .tup [.agg s.cs, .v (.bool false)]
theorem shR_some {o : Option ShapeG} {hp : Hp} {s : ShapeG} (h : o = some s) : ShapeR o hp (.tup [.agg s.cs, .v (.bool true)]) hp := by rw [h]; exact ⟨rfl, rfl⟩
theorem shR_none {o : Option ShapeG} {hp : Hp} (h : o = none) : ShapeR o hp (.tup [.agg [.v (.bool false), .v (.bool false), .v (.bool false), .v (.int .i64 0), .v (.int .i64 0)], .v (.bool false)]) hp := by rw [h]; exact ⟨rfl, ⟨false, false, false, 0, 0⟩, rfl⟩
theorem typ_wrap {l : List DeclG} {t : Int} (hl : l.length ≤ 8) (h1 : 1 ≤ t) (h2 : t ≤ l.length) : IntKind.i64.wrap (t - 1) = t - 1 := IntWalk.i64_in _ (by omega)
theorem shape_calls (p : ProgG) (hsm : SmallX p.ds) (hdl : p.ds.length ≤ 8) (t : TermG) (hp : Hp) : ACalls Tryz.prog 187 [p.av, t.av] hp (ShapeR (shapeS p.ds p.pf t) hp) := by
  by_cases hops : t.op = 0 ∨ t.op = 1 ∨ t.op = 2 ∨ t.op = 3 ∨ t.op = 4 ∨ t.op = 5 ∨ t.op = 6 ∨ t.op = 7 ∨ t.op = 8 ∨ t.op = 9 ∨ t.op = 10 ∨ t.op = 11 ∨ t.op = 12
  · refine acalls_of Tryz.func187 rfl (by decide +kernel) (awp_sound (mu := []) _ _ _ ?_)
    simp only [go_sem, Nat.reduceEqDiff, Nat.reduceAdd, Nat.reduceSub, Nat.reduceLT, Nat.reduceMul, Nat.reduceBEq, Nat.reduceLeDiff, ↓reduceIte, Int.reduceToNat, Nat.reduceGT, Int.reduceLE, Int.reduceLT, Int.reduceGE, Int.reduceGT, Int.reduceEq, Int.reduceNe, reduceCtorEq, TermG.av, TermG.cs_eq, ProgG.av, ProgG.cs, declsAV, funsAV]
    intro q1 q2 v hv
    have hds := fun T cs => Hp.del_set _ _ T cs hv.1
    have hpf : (p.pf.length : Int) = (p.fs.length : Int) := by rw [ProgG.pf, List.length_map]
    rcases hops with ho | ho | ho | ho | ho | ho | ho | ho | ho | ho | ho | ho | ho
    · simp only [go_sem, Nat.reduceEqDiff, Nat.reduceAdd, Nat.reduceSub, Nat.reduceLT, Nat.reduceMul, Nat.reduceBEq, Nat.reduceLeDiff, ↓reduceIte, Int.reduceToNat, Nat.reduceGT, Int.reduceLE, Int.reduceLT, Int.reduceGE, Int.reduceGT, Int.reduceEq, Int.reduceNe, reduceCtorEq, ho, hds]
      exact ret_same (shR_some (o := shapeS p.ds p.pf t) (s := ⟨true, false, false, 0, 0⟩) (by simp only [shapeS, ho]; rfl))
    · simp only [go_sem, Nat.reduceEqDiff, Nat.reduceAdd, Nat.reduceSub, Nat.reduceLT, Nat.reduceMul, Nat.reduceBEq, Nat.reduceLeDiff, ↓reduceIte, Int.reduceToNat, Nat.reduceGT, Int.reduceLE, Int.reduceLT, Int.reduceGE, Int.reduceGT, Int.reduceEq, Int.reduceNe, reduceCtorEq, ho, hds]
      exact ret_same (shR_some (o := shapeS p.ds p.pf t) (s := ⟨false, false, true, 0, 0⟩) (by simp only [shapeS, ho]; rfl))
    · simp only [go_sem, Nat.reduceEqDiff, Nat.reduceAdd, Nat.reduceSub, Nat.reduceLT, Nat.reduceMul, Nat.reduceBEq, Nat.reduceLeDiff, ↓reduceIte, Int.reduceToNat, Nat.reduceGT, Int.reduceLE, Int.reduceLT, Int.reduceGE, Int.reduceGT, Int.reduceEq, Int.reduceNe, reduceCtorEq, ho]
      refine draw_by (mu := []) (fun _ => True) (.take 1 (.take 2 (.take 3 (.take 4 (.take 5 (.take 6 (.take 7 (.take 8 (.br 0 (.br 9 (.take 10 (.done)) (.stop)) (.stop)))))))))) (by decide +kernel) trivial (by decide +kernel) (by decide +kernel) ?_
      simp only [go_sem, Nat.reduceEqDiff, Nat.reduceAdd, Nat.reduceSub, Nat.reduceLT, Nat.reduceMul, Nat.reduceBEq, Nat.reduceLeDiff, ↓reduceIte, Int.reduceToNat, Nat.reduceGT, Int.reduceLE, Int.reduceLT, Int.reduceGE, Int.reduceGT, Int.reduceEq, Int.reduceNe, reduceCtorEq, hds]
      refine brK_mk (fun b1 => ?_) (fun b1 => ?_) <;> simp only [go_sem, Nat.reduceEqDiff, Nat.reduceAdd, Nat.reduceSub, Nat.reduceLT, Nat.reduceMul, Nat.reduceBEq, Nat.reduceLeDiff, ↓reduceIte, Int.reduceToNat, Nat.reduceGT, Int.reduceLE, Int.reduceLT, Int.reduceGE, Int.reduceGT, Int.reduceEq, Int.reduceNe, reduceCtorEq, b1, hds]
      · cases b2 : decide (t.n ≤ 6) with
        | true => exact ret_same (shR_some (o := shapeS p.ds p.pf t) (s := ⟨false, false, true, 2, 0⟩) (by simp only [shapeS, ho, b1, b2]; rfl))
        | false => exact ret_same ⟨rfl, by rw [show shapeS p.ds p.pf t = none from by simp only [shapeS, ho, b1, b2]; rfl]; exact ⟨⟨false, false, true, 2, 0⟩, rfl⟩⟩
      · exact ret_same ⟨rfl, by rw [show shapeS p.ds p.pf t = none from by simp only [shapeS, ho, b1]; rfl]; exact ⟨⟨false, false, true, 2, 0⟩, rfl⟩⟩
    · simp only [go_sem, Nat.reduceEqDiff, Nat.reduceAdd, Nat.reduceSub, Nat.reduceLT, Nat.reduceMul, Nat.reduceBEq, Nat.reduceLeDiff, ↓reduceIte, Int.reduceToNat, Nat.reduceGT, Int.reduceLE, Int.reduceLT, Int.reduceGE, Int.reduceGT, Int.reduceEq, Int.reduceNe, reduceCtorEq, ho, hds]
      exact ret_same (shR_some (o := shapeS p.ds p.pf t) (s := ⟨false, false, false, 3, 0⟩) (by simp only [shapeS, ho]; rfl))
    · simp only [go_sem, Nat.reduceEqDiff, Nat.reduceAdd, Nat.reduceSub, Nat.reduceLT, Nat.reduceMul, Nat.reduceBEq, Nat.reduceLeDiff, ↓reduceIte, Int.reduceToNat, Nat.reduceGT, Int.reduceLE, Int.reduceLT, Int.reduceGE, Int.reduceGT, Int.reduceEq, Int.reduceNe, reduceCtorEq, ho]
      have c := data_calls p.hd p.ds t.ty (hp.setBlk v 260 [.v (.bool false), .v (.bool false), .v (.bool false), .v (.int .i64 0), .v (.int .i64 0)])
      simp only [declsAV] at c
      refine callX_by c ?_
      clear c
      rintro r hp1 ⟨rfl, rfl⟩
      simp only [go_sem, Nat.reduceEqDiff, Nat.reduceAdd, Nat.reduceSub, Nat.reduceLT, Nat.reduceMul, Nat.reduceBEq, Nat.reduceLeDiff, ↓reduceIte, Int.reduceToNat, Nat.reduceGT, Int.reduceLE, Int.reduceLT, Int.reduceGE, Int.reduceGT, Int.reduceEq, Int.reduceNe, reduceCtorEq]
      refine brK_mk (fun b1 => ?_) (fun b1 => ?_) <;> simp only [go_sem, Nat.reduceEqDiff, Nat.reduceAdd, Nat.reduceSub, Nat.reduceLT, Nat.reduceMul, Nat.reduceBEq, Nat.reduceLeDiff, ↓reduceIte, Int.reduceToNat, Nat.reduceGT, Int.reduceLE, Int.reduceLT, Int.reduceGE, Int.reduceGT, Int.reduceEq, Int.reduceNe, reduceCtorEq, b1, hds]
      · have c := has_calls p.hd p.ds t.ty t.n (hp.setBlk v 260 [.v (.bool false), .v (.bool false), .v (.bool false), .v (.int .i64 0), .v (.int .i64 0)])
        simp only [declsAV] at c
        refine callX_by c ?_
        clear c
        rintro r hp1 ⟨rfl, rfl⟩
        simp only [go_sem, Nat.reduceEqDiff, Nat.reduceAdd, Nat.reduceSub, Nat.reduceLT, Nat.reduceMul, Nat.reduceBEq, Nat.reduceLeDiff, ↓reduceIte, Int.reduceToNat, Nat.reduceGT, Int.reduceLE, Int.reduceLT, Int.reduceGE, Int.reduceGT, Int.reduceEq, Int.reduceNe, reduceCtorEq]
        refine brK_mk (fun b2 => ?_) (fun b2 => ?_) <;> simp only [go_sem, Nat.reduceEqDiff, Nat.reduceAdd, Nat.reduceSub, Nat.reduceLT, Nat.reduceMul, Nat.reduceBEq, Nat.reduceLeDiff, ↓reduceIte, Int.reduceToNat, Nat.reduceGT, Int.reduceLE, Int.reduceLT, Int.reduceGE, Int.reduceGT, Int.reduceEq, Int.reduceNe, reduceCtorEq, b2, hds]
        · obtain ⟨ht1, ht2⟩ := data_ty b1
          have hwt : IntKind.i64.wrap (t.ty - 1) = t.ty - 1 := typ_wrap hdl (by omega) ht2
          obtain ⟨d, hd⟩ := someAt p.ds (t.ty - 1).toNat (by omega)
          have hxs : xtorsOf p.ds t.ty = d.xtors := by simp only [xtorsOf, hd, Option.map_some, Option.getD_some]
          have hnn : 0 ≤ t.n ∧ t.n < d.xtors.length := by
            have hh := b2
            simp only [hasN, hxs, Bool.and_eq_true, decide_eq_true_eq] at hh; exact ⟨hh.1.2, hh.2⟩
          obtain ⟨x, hx⟩ := someAt d.xtors t.n.toNat (by omega)
          have hx' : (xtorsOf p.ds t.ty)[t.n.toNat]? = some x := by rw [hxs]; exact hx
          have hxl := hsm d (List.mem_of_getElem? hd) x (List.mem_of_getElem? hx)
          have hxa : xtorAt p.ds t.ty t.n = x := by rw [xtorAt, hx']; rfl
          refine draw_by (mu := []) (fun _ => True) (.take 0 (.take 1 (.take 2 (.take 3 (.take 4 (.take 5 (.take 6 (.take 7 (.take 8 (.take 9 (.take 10 (.take 11 (.take 12 (.take 13 (.br 14 (.br 15 (.take 16 (.done)) (.stop)) (.stop)))))))))))))))) (by decide +kernel) trivial (by decide +kernel) (by decide +kernel) ?_
          simp only [go_sem, Nat.reduceEqDiff, Nat.reduceAdd, Nat.reduceSub, Nat.reduceLT, Nat.reduceMul, Nat.reduceBEq, Nat.reduceLeDiff, ↓reduceIte, Int.reduceToNat, Nat.reduceGT, Int.reduceLE, Int.reduceLT, Int.reduceGE, Int.reduceGT, Int.reduceEq, Int.reduceNe, reduceCtorEq, hwt, mapAt DeclG.av _ _ _ hd, DeclG.av, DeclG.cs, mapAt XtorG.av _ _ _ hx, XtorG.av, XtorG.cs]
          refine ⟨by omega, fun _ _ => by omega, hnn.1, fun _ _ => hnn.1, ?_⟩
          simp only [hds]
          exact ret_same (shR_some (o := shapeS p.ds p.pf t) (s := ⟨false, true, true, x.args.length, 0⟩) (by simp only [shapeS, ho, b1, b2, hxa]; rfl))
        · exact ret_same (shR_none (o := shapeS p.ds p.pf t) (by simp only [shapeS, ho, b1, b2]; rfl))
      · exact ret_same (shR_none (o := shapeS p.ds p.pf t) (by simp only [shapeS, ho, b1]; rfl))
    · simp only [go_sem, Nat.reduceEqDiff, Nat.reduceAdd, Nat.reduceSub, Nat.reduceLT, Nat.reduceMul, Nat.reduceBEq, Nat.reduceLeDiff, ↓reduceIte, Int.reduceToNat, Nat.reduceGT, Int.reduceLE, Int.reduceLT, Int.reduceGE, Int.reduceGT, Int.reduceEq, Int.reduceNe, reduceCtorEq, ho]
      have c := data_calls p.hd p.ds t.ty (hp.setBlk v 260 [.v (.bool false), .v (.bool false), .v (.bool false), .v (.int .i64 0), .v (.int .i64 0)])
      simp only [declsAV] at c
      refine callX_by c ?_
      clear c
      rintro r hp1 ⟨rfl, rfl⟩
      simp only [go_sem, Nat.reduceEqDiff, Nat.reduceAdd, Nat.reduceSub, Nat.reduceLT, Nat.reduceMul, Nat.reduceBEq, Nat.reduceLeDiff, ↓reduceIte, Int.reduceToNat, Nat.reduceGT, Int.reduceLE, Int.reduceLT, Int.reduceGE, Int.reduceGT, Int.reduceEq, Int.reduceNe, reduceCtorEq]
      refine brK_mk (fun b1 => ?_) (fun b1 => ?_) <;> simp only [go_sem, Nat.reduceEqDiff, Nat.reduceAdd, Nat.reduceSub, Nat.reduceLT, Nat.reduceMul, Nat.reduceBEq, Nat.reduceLeDiff, ↓reduceIte, Int.reduceToNat, Nat.reduceGT, Int.reduceLE, Int.reduceLT, Int.reduceGE, Int.reduceGT, Int.reduceEq, Int.reduceNe, reduceCtorEq, b1, hds]
      · obtain ⟨ht1, ht2⟩ := data_ty b1
        have hwt : IntKind.i64.wrap (t.ty - 1) = t.ty - 1 := typ_wrap hdl (by omega) ht2
        obtain ⟨d, hd⟩ := someAt p.ds (t.ty - 1).toNat (by omega)
        have hxs : xtorsOf p.ds t.ty = d.xtors := by simp only [xtorsOf, hd, Option.map_some, Option.getD_some]
        simp only [go_sem, Nat.reduceEqDiff, Nat.reduceAdd, Nat.reduceSub, Nat.reduceLT, Nat.reduceMul, Nat.reduceBEq, Nat.reduceLeDiff, ↓reduceIte, Int.reduceToNat, Nat.reduceGT, Int.reduceLE, Int.reduceLT, Int.reduceGE, Int.reduceGT, Int.reduceEq, Int.reduceNe, reduceCtorEq, hwt, mapAt DeclG.av _ _ _ hd, DeclG.av, DeclG.cs]
        refine ⟨by omega, ?_⟩
        simp only [hds]
        exact ret_same (shR_some (o := shapeS p.ds p.pf t) (s := ⟨false, true, false, 1, d.xtors.length⟩) (by simp only [shapeS, ho, b1, hxs]; rfl))
      · exact ret_same (shR_none (o := shapeS p.ds p.pf t) (by simp only [shapeS, ho, b1]; rfl))
    · simp only [go_sem, Nat.reduceEqDiff, Nat.reduceAdd, Nat.reduceSub, Nat.reduceLT, Nat.reduceMul, Nat.reduceBEq, Nat.reduceLeDiff, ↓reduceIte, Int.reduceToNat, Nat.reduceGT, Int.reduceLE, Int.reduceLT, Int.reduceGE, Int.reduceGT, Int.reduceEq, Int.reduceNe, reduceCtorEq, ho]
      have c := rcodata_calls p.hd p.ds t.ty (hp.setBlk v 260 [.v (.bool false), .v (.bool false), .v (.bool false), .v (.int .i64 0), .v (.int .i64 0)])
      simp only [declsAV] at c
      refine callX_by c ?_
      clear c
      rintro r hp1 ⟨rfl, rfl⟩
      simp only [go_sem, Nat.reduceEqDiff, Nat.reduceAdd, Nat.reduceSub, Nat.reduceLT, Nat.reduceMul, Nat.reduceBEq, Nat.reduceLeDiff, ↓reduceIte, Int.reduceToNat, Nat.reduceGT, Int.reduceLE, Int.reduceLT, Int.reduceGE, Int.reduceGT, Int.reduceEq, Int.reduceNe, reduceCtorEq, codata_dataB]
      refine brK_mk (fun b1 => ?_) (fun b1 => ?_) <;> simp only [go_sem, Nat.reduceEqDiff, Nat.reduceAdd, Nat.reduceSub, Nat.reduceLT, Nat.reduceMul, Nat.reduceBEq, Nat.reduceLeDiff, ↓reduceIte, Int.reduceToNat, Nat.reduceGT, Int.reduceLE, Int.reduceLT, Int.reduceGE, Int.reduceGT, Int.reduceEq, Int.reduceNe, reduceCtorEq, b1, hds]
      · have c := has_calls p.hd p.ds t.ty t.n (hp.setBlk v 260 [.v (.bool false), .v (.bool false), .v (.bool false), .v (.int .i64 0), .v (.int .i64 0)])
        simp only [declsAV] at c
        refine callX_by c ?_
        clear c
        rintro r hp1 ⟨rfl, rfl⟩
        simp only [go_sem, Nat.reduceEqDiff, Nat.reduceAdd, Nat.reduceSub, Nat.reduceLT, Nat.reduceMul, Nat.reduceBEq, Nat.reduceLeDiff, ↓reduceIte, Int.reduceToNat, Nat.reduceGT, Int.reduceLE, Int.reduceLT, Int.reduceGE, Int.reduceGT, Int.reduceEq, Int.reduceNe, reduceCtorEq]
        refine brK_mk (fun b2 => ?_) (fun b2 => ?_) <;> simp only [go_sem, Nat.reduceEqDiff, Nat.reduceAdd, Nat.reduceSub, Nat.reduceLT, Nat.reduceMul, Nat.reduceBEq, Nat.reduceLeDiff, ↓reduceIte, Int.reduceToNat, Nat.reduceGT, Int.reduceLE, Int.reduceLT, Int.reduceGE, Int.reduceGT, Int.reduceEq, Int.reduceNe, reduceCtorEq, b2, hds]
        · obtain ⟨ht1, ht2⟩ := data_ty b1
          have hwt : IntKind.i64.wrap (t.ty - 1) = t.ty - 1 := typ_wrap hdl (by omega) ht2
          obtain ⟨d, hd⟩ := someAt p.ds (t.ty - 1).toNat (by omega)
          have hxs : xtorsOf p.ds t.ty = d.xtors := by simp only [xtorsOf, hd, Option.map_some, Option.getD_some]
          have hnn : 0 ≤ t.n ∧ t.n < d.xtors.length := by
            have hh := b2
            simp only [hasN, hxs, Bool.and_eq_true, decide_eq_true_eq] at hh; exact ⟨hh.1.2, hh.2⟩
          obtain ⟨x, hx⟩ := someAt d.xtors t.n.toNat (by omega)
          have hx' : (xtorsOf p.ds t.ty)[t.n.toNat]? = some x := by rw [hxs]; exact hx
          have hxl := hsm d (List.mem_of_getElem? hd) x (List.mem_of_getElem? hx)
          have hxa : xtorAt p.ds t.ty t.n = x := by rw [xtorAt, hx']; rfl
          refine draw_by (mu := []) (fun _ => True) (.take 0 (.take 1 (.take 2 (.take 3 (.take 4 (.take 5 (.take 6 (.take 7 (.take 8 (.take 9 (.take 10 (.take 11 (.br 12 (.take 13 (.take 14 (.br 15 (.br 16 (.take 17 (.done)) (.stop)) (.stop)))) (.stop)))))))))))))) (by decide +kernel) trivial (by decide +kernel) (by decide +kernel) ?_
          simp only [go_sem, Nat.reduceEqDiff, Nat.reduceAdd, Nat.reduceSub, Nat.reduceLT, Nat.reduceMul, Nat.reduceBEq, Nat.reduceLeDiff, ↓reduceIte, Int.reduceToNat, Nat.reduceGT, Int.reduceLE, Int.reduceLT, Int.reduceGE, Int.reduceGT, Int.reduceEq, Int.reduceNe, reduceCtorEq, hwt, mapAt DeclG.av _ _ _ hd, DeclG.av, DeclG.cs, mapAt XtorG.av _ _ _ hx, XtorG.av, XtorG.cs]
          refine ⟨by omega, fun _ _ => by omega, hnn.1, fun _ _ => hnn.1, ?_⟩
          refine callX_by (rproducers_calls x hxl _) ?_
          rintro r hp1 ⟨h31, rfl, rfl⟩
          have hpl := prods_len x
          have hpn : prodN x ≤ 6 := Nat.le_trans (List.length_filter_le _ _) hxl
          have hw1 : IntKind.i64.wrap (1 + (prodN x : Int)) = ((1 + prodN x : Nat) : Int) := by rw [show 1 + (prodN x : Int) = ((1 + prodN x : Nat) : Int) by omega]; exact IntWalk.i64_in _ (by omega)
          simp only [go_sem, Nat.reduceEqDiff, Nat.reduceAdd, Nat.reduceSub, Nat.reduceLT, Nat.reduceMul, Nat.reduceBEq, Nat.reduceLeDiff, ↓reduceIte, Int.reduceToNat, Nat.reduceGT, Int.reduceLE, Int.reduceLT, Int.reduceGE, Int.reduceGT, Int.reduceEq, Int.reduceNe, reduceCtorEq, intsAV, List.length_map, hpl, hw1]
          refine ret_le (hp' := hp) ?_ (shR_some (o := shapeS p.ds p.pf t) (s := ⟨false, true, true, 1 + prodN x, 0⟩) (by simp only [shapeS, ho, b1, b2, hxa]; rfl))
          show hp.le (((hp.setBlk v _ _).delBlk v).setSp _)
          rw [hds]
          exact Hp.le_addSp _ _
        · exact ret_same (shR_none (o := shapeS p.ds p.pf t) (by simp only [shapeS, ho, b1, b2]; rfl))
      · exact ret_same (shR_none (o := shapeS p.ds p.pf t) (by simp only [shapeS, ho, b1]; rfl))
    · simp only [go_sem, Nat.reduceEqDiff, Nat.reduceAdd, Nat.reduceSub, Nat.reduceLT, Nat.reduceMul, Nat.reduceBEq, Nat.reduceLeDiff, ↓reduceIte, Int.reduceToNat, Nat.reduceGT, Int.reduceLE, Int.reduceLT, Int.reduceGE, Int.reduceGT, Int.reduceEq, Int.reduceNe, reduceCtorEq, ho]
      have c := rcodata_calls p.hd p.ds t.ty (hp.setBlk v 260 [.v (.bool false), .v (.bool false), .v (.bool false), .v (.int .i64 0), .v (.int .i64 0)])
      simp only [declsAV] at c
      refine callX_by c ?_
      clear c
      rintro r hp1 ⟨rfl, rfl⟩
      simp only [go_sem, Nat.reduceEqDiff, Nat.reduceAdd, Nat.reduceSub, Nat.reduceLT, Nat.reduceMul, Nat.reduceBEq, Nat.reduceLeDiff, ↓reduceIte, Int.reduceToNat, Nat.reduceGT, Int.reduceLE, Int.reduceLT, Int.reduceGE, Int.reduceGT, Int.reduceEq, Int.reduceNe, reduceCtorEq, codata_dataB]
      refine brK_mk (fun b1 => ?_) (fun b1 => ?_) <;> simp only [go_sem, Nat.reduceEqDiff, Nat.reduceAdd, Nat.reduceSub, Nat.reduceLT, Nat.reduceMul, Nat.reduceBEq, Nat.reduceLeDiff, ↓reduceIte, Int.reduceToNat, Nat.reduceGT, Int.reduceLE, Int.reduceLT, Int.reduceGE, Int.reduceGT, Int.reduceEq, Int.reduceNe, reduceCtorEq, b1, hds]
      · obtain ⟨ht1, ht2⟩ := data_ty b1
        have hwt : IntKind.i64.wrap (t.ty - 1) = t.ty - 1 := typ_wrap hdl (by omega) ht2
        obtain ⟨d, hd⟩ := someAt p.ds (t.ty - 1).toNat (by omega)
        have hxs : xtorsOf p.ds t.ty = d.xtors := by simp only [xtorsOf, hd, Option.map_some, Option.getD_some]
        simp only [go_sem, Nat.reduceEqDiff, Nat.reduceAdd, Nat.reduceSub, Nat.reduceLT, Nat.reduceMul, Nat.reduceBEq, Nat.reduceLeDiff, ↓reduceIte, Int.reduceToNat, Nat.reduceGT, Int.reduceLE, Int.reduceLT, Int.reduceGE, Int.reduceGT, Int.reduceEq, Int.reduceNe, reduceCtorEq, hwt, mapAt DeclG.av _ _ _ hd, DeclG.av, DeclG.cs]
        refine ⟨by omega, ?_⟩
        simp only [hds]
        exact ret_same (shR_some (o := shapeS p.ds p.pf t) (s := ⟨false, true, false, 0, d.xtors.length⟩) (by simp only [shapeS, ho, b1, hxs]; rfl))
      · exact ret_same (shR_none (o := shapeS p.ds p.pf t) (by simp only [shapeS, ho, b1]; rfl))
    · simp only [go_sem, Nat.reduceEqDiff, Nat.reduceAdd, Nat.reduceSub, Nat.reduceLT, Nat.reduceMul, Nat.reduceBEq, Nat.reduceLeDiff, ↓reduceIte, Int.reduceToNat, Nat.reduceGT, Int.reduceLE, Int.reduceLT, Int.reduceGE, Int.reduceGT, Int.reduceEq, Int.reduceNe, reduceCtorEq, ho, hds]
      exact ret_same (shR_some (o := shapeS p.ds p.pf t) (s := ⟨true, true, false, 2, 0⟩) (by simp only [shapeS, ho]; rfl))
    · simp only [go_sem, Nat.reduceEqDiff, Nat.reduceAdd, Nat.reduceSub, Nat.reduceLT, Nat.reduceMul, Nat.reduceBEq, Nat.reduceLeDiff, ↓reduceIte, Int.reduceToNat, Nat.reduceGT, Int.reduceLE, Int.reduceLT, Int.reduceGE, Int.reduceGT, Int.reduceEq, Int.reduceNe, reduceCtorEq, ho]
      refine brK_mk (fun b1 => ?_) (fun b1 => ?_) <;> simp only [go_sem, Nat.reduceEqDiff, Nat.reduceAdd, Nat.reduceSub, Nat.reduceLT, Nat.reduceMul, Nat.reduceBEq, Nat.reduceLeDiff, ↓reduceIte, Int.reduceToNat, Nat.reduceGT, Int.reduceLE, Int.reduceLT, Int.reduceGE, Int.reduceGT, Int.reduceEq, Int.reduceNe, reduceCtorEq, b1, hds]
      · exact ret_same (shR_none (o := shapeS p.ds p.pf t) (by simp only [shapeS, ho, b1]; rfl))
      · refine brK_mk (fun b2 => ?_) (fun b2 => ?_) <;> simp only [go_sem, Nat.reduceEqDiff, Nat.reduceAdd, Nat.reduceSub, Nat.reduceLT, Nat.reduceMul, Nat.reduceBEq, Nat.reduceLeDiff, ↓reduceIte, Int.reduceToNat, Nat.reduceGT, Int.reduceLE, Int.reduceLT, Int.reduceGE, Int.reduceGT, Int.reduceEq, Int.reduceNe, reduceCtorEq, b2, hds]
        · exact ret_same (shR_none (o := shapeS p.ds p.pf t) (by simp only [shapeS, ho, b1, hpf, b2]; rfl))
        · have h1 := of_decide_eq_false b1
          have h2 := of_decide_eq_false b2
          obtain ⟨f, hf⟩ := someAt p.fs t.n.toNat (by omega)
          have hpn : (p.pf[t.n.toNat]?).getD 0 = f.params.length := by rw [ProgG.pf, List.getElem?_map, hf]; rfl
          simp only [go_sem, Nat.reduceEqDiff, Nat.reduceAdd, Nat.reduceSub, Nat.reduceLT, Nat.reduceMul, Nat.reduceBEq, Nat.reduceLeDiff, ↓reduceIte, Int.reduceToNat, Nat.reduceGT, Int.reduceLE, Int.reduceLT, Int.reduceGE, Int.reduceGT, Int.reduceEq, Int.reduceNe, reduceCtorEq, mapAt FunG.av _ _ _ hf, FunG.av, FunG.cs, paramsAV]
          refine ⟨by omega, ?_⟩
          simp only [go_sem, Nat.reduceEqDiff, Nat.reduceAdd, Nat.reduceSub, Nat.reduceLT, Nat.reduceMul, Nat.reduceBEq, Nat.reduceLeDiff, ↓reduceIte, Int.reduceToNat, Nat.reduceGT, Int.reduceLE, Int.reduceLT, Int.reduceGE, Int.reduceGT, Int.reduceEq, Int.reduceNe, reduceCtorEq, hds]
          exact ret_same (shR_some (o := shapeS p.ds p.pf t) (s := ⟨false, false, true, f.params.length, 0⟩) (by simp only [shapeS, ho, b1, hpf, b2, hpn]; rfl))
    · simp only [go_sem, Nat.reduceEqDiff, Nat.reduceAdd, Nat.reduceSub, Nat.reduceLT, Nat.reduceMul, Nat.reduceBEq, Nat.reduceLeDiff, ↓reduceIte, Int.reduceToNat, Nat.reduceGT, Int.reduceLE, Int.reduceLT, Int.reduceGE, Int.reduceGT, Int.reduceEq, Int.reduceNe, reduceCtorEq, ho, hds]
      exact ret_same (shR_some (o := shapeS p.ds p.pf t) (s := ⟨false, false, false, 2, 0⟩) (by simp only [shapeS, ho]; rfl))
    · simp only [go_sem, Nat.reduceEqDiff, Nat.reduceAdd, Nat.reduceSub, Nat.reduceLT, Nat.reduceMul, Nat.reduceBEq, Nat.reduceLeDiff, ↓reduceIte, Int.reduceToNat, Nat.reduceGT, Int.reduceLE, Int.reduceLT, Int.reduceGE, Int.reduceGT, Int.reduceEq, Int.reduceNe, reduceCtorEq, ho, hds]
      exact ret_same (shR_some (o := shapeS p.ds p.pf t) (s := ⟨true, true, false, 1, 0⟩) (by simp only [shapeS, ho]; rfl))
    · simp only [go_sem, Nat.reduceEqDiff, Nat.reduceAdd, Nat.reduceSub, Nat.reduceLT, Nat.reduceMul, Nat.reduceBEq, Nat.reduceLeDiff, ↓reduceIte, Int.reduceToNat, Nat.reduceGT, Int.reduceLE, Int.reduceLT, Int.reduceGE, Int.reduceGT, Int.reduceEq, Int.reduceNe, reduceCtorEq, ho, hds]
      exact ret_same (shR_some (o := shapeS p.ds p.pf t) (s := ⟨true, true, false, 1, 0⟩) (by simp only [shapeS, ho]; rfl))
  · refine acalls_of Tryz.func187 rfl (by decide +kernel) (awp_sound (mu := []) _ _ _ ?_)
    simp only [go_sem, Nat.reduceEqDiff, Nat.reduceAdd, Nat.reduceSub, Nat.reduceLT, Nat.reduceMul, Nat.reduceBEq, Nat.reduceLeDiff, ↓reduceIte, Int.reduceToNat, Nat.reduceGT, Int.reduceLE, Int.reduceLT, Int.reduceGE, Int.reduceGT, Int.reduceEq, Int.reduceNe, reduceCtorEq, TermG.av, TermG.cs_eq, ProgG.av, ProgG.cs, declsAV, funsAV]
    intro q1 q2 v hv
    have hds := fun T cs => Hp.del_set _ _ T cs hv.1
    simp only [not_or] at hops
    obtain ⟨h0, h1, h2, h3, h4, h5, h6, h7, h8, h9, h10, h11, h12⟩ := hops
    simp only [go_sem, Nat.reduceEqDiff, Nat.reduceAdd, Nat.reduceSub, Nat.reduceLT, Nat.reduceMul, Nat.reduceBEq, Nat.reduceLeDiff, ↓reduceIte, Int.reduceToNat, Nat.reduceGT, Int.reduceLE, Int.reduceLT, Int.reduceGE, Int.reduceGT, Int.reduceEq, Int.reduceNe, reduceCtorEq, decide_eq_false h0, decide_eq_false h1, decide_eq_false h2, decide_eq_false h3, decide_eq_false h4, decide_eq_false h5, decide_eq_false h6, decide_eq_false h7, decide_eq_false h8, decide_eq_false h9, decide_eq_false h10, decide_eq_false h11, decide_eq_false h12]
    simp only [hds]
    exact ret_same (shR_none (o := shapeS p.ds p.pf t) (by simp only [shapeS, if_neg h0, if_neg h1, if_neg h2, if_neg h3, if_neg h4, if_neg h5, if_neg h6, if_neg h7, if_neg h8, if_neg h9, if_neg h10, if_neg h11, if_neg h12]))
end Go.Proofs.YtkoachnlimebaaaGreatDoor
/- The reference of the layer 'term': nodes. -/
set_option linter.unusedSimpArgs false
set_option linter.unusedVariables false
set_option maxRecDepth 20000
set_option maxHeartbeats 4000000
namespace Go.Proofs.YtkoachnlimebaaaGreatDoor
open Go.AL

def nodeR (ds : List DeclG) (pf : List Nat) (V L : Bytes → Bool) (t : TermG) : Bool :=
  match shapeS ds pf t with
  | none => false
  | some s => (s.name || decide (t.name = [])) && ((s.typ || decide (t.ty = 0)) && ((s.n || decide (t.n = 0)) && (decide (t.args.length = s.args) && (decide (t.cls.length = s.cls) && ((!s.typ || typB ds t.ty) && ((t.cls.isEmpty || clsNames (xtorsOf ds t.ty) t.cls) &&
    (if t.op = 0 then V t.name else if t.op = 12 then L t.name else if t.op = 8 ∨ t.op = 11 then nameB t.name else true)))))))
theorem shape_cls {ds : List DeclG} {pf : List Nat} {t : TermG} {s : ShapeG} (h : shapeS ds pf t = some s) (hc : s.cls ≠ 0) : s.cls = (xtorsOf ds t.ty).length ∧ ∃ b, dataB ds t.ty b = true := by
  have go : ∀ (c : Prop) [Decidable c] (x : Option ShapeG), (if c then x else none) = some s → c ∧ x = some s := fun c _ x e => by
    by_cases hc : c
    · rw [if_pos hc] at e; exact ⟨hc, e⟩
    · rw [if_neg hc] at e; cases e
  by_cases h5 : t.op = 5
  · simp only [shapeS, h5] at h
    obtain ⟨h1, h2⟩ := go _ _ h
    injection h2 with h2; subst h2; exact ⟨rfl, _, h1⟩
  · by_cases h7 : t.op = 7
    · simp only [shapeS, h7] at h
      obtain ⟨h1, h2⟩ := go _ _ h
      injection h2 with h2; subst h2; exact ⟨rfl, _, h1⟩
    · exfalso
      apply hc
      simp only [shapeS, if_neg h5, if_neg h7] at h
      grind (splits := 20)
theorem node_calls (p : ProgG) (hsm : SmallX p.ds) (hdl : p.ds.length ≤ 8) (h1 h2 : Value) (V L : List Bytes) (t : TermG) (hp : Hp) : ACalls Tryz.prog 144 [p.av, strsAV h1 V, strsAV h2 L, t.av] hp (fun r hp' => r = .v (.bool (nodeR p.ds p.pf (hasB V) (hasB L) t)) ∧ hp' = hp) := by
  refine acalls_fit (callable_of Tryz.func144 (by decide +kernel)) fun hfit => ?_
  obtain ⟨hla, hlc⟩ := fit_term hfit.2.2.2.1
  clear hfit
  refine acalls_of Tryz.func144 rfl (by decide +kernel) (awp_sound (mu := []) _ _ _ ?_)
  simp only [go_sem, Nat.reduceEqDiff, Nat.reduceAdd, Nat.reduceSub, Nat.reduceLT, Nat.reduceBEq, Nat.reduceLeDiff, ↓reduceIte, Int.reduceToNat, Int.reduceLE, Int.reduceLT, Int.reduceEq, reduceCtorEq, TermG.av, TermG.cs_eq, ProgG.av, ProgG.cs, declsAV, funsAV]
  intro q1 q2
  have c := shape_calls p hsm hdl t hp
  simp only [TermG.av, TermG.cs_eq, ProgG.av, ProgG.cs, declsAV, funsAV] at c
  refine callX_by c ?_
  clear c
  rintro r hp1 ⟨rfl, hr⟩
  cases hs : shapeS p.ds p.pf t with
  | none =>
    rw [hs] at hr
    obtain ⟨s, rfl⟩ := hr
    simp only [go_sem, Nat.reduceEqDiff, Nat.reduceAdd, Nat.reduceSub, Nat.reduceLT, Nat.reduceBEq, Nat.reduceLeDiff, ↓reduceIte, Int.reduceToNat, Int.reduceLE, Int.reduceLT, Int.reduceEq, reduceCtorEq, ShapeG.cs]
    intro b hb
    have hds := fun T cs => Hp.del_set _ _ T cs hb.1
    simp only [hds]
    exact ret_same ⟨by rw [nodeR, hs], rfl⟩
  | some s =>
    rw [hs] at hr
    subst hr
    obtain ⟨sn, st, sk, sa, sc⟩ := s
    simp only [go_sem, Nat.reduceEqDiff, Nat.reduceAdd, Nat.reduceSub, Nat.reduceLT, Nat.reduceBEq, Nat.reduceLeDiff, ↓reduceIte, Int.reduceToNat, Int.reduceLE, Int.reduceLT, Int.reduceEq, reduceCtorEq, ShapeG.cs]
    intro b hb
    have hds := fun T cs => Hp.del_set _ _ T cs hb.1
    cases sn <;> cases st <;> cases sk
    all_goals simp only [go_sem, Nat.reduceEqDiff, Nat.reduceAdd, Nat.reduceSub, Nat.reduceLT, Nat.reduceBEq, Nat.reduceLeDiff, ↓reduceIte, Int.reduceToNat, Int.reduceLE, Int.reduceLT, Int.reduceEq, reduceCtorEq, hds]
    all_goals repeat' first
      | (exact ret_same ⟨by simp only [decide_eq_true_eq, decide_eq_false_iff_not] at *; rw [nodeR, hs]; simp [*, typB]; try omega, rfl⟩)
      | (refine brK_mk (fun a => ?_) (fun a => ?_) <;> simp only [go_sem, Nat.reduceEqDiff, Nat.reduceAdd, Nat.reduceSub, Nat.reduceLT, Nat.reduceBEq, Nat.reduceLeDiff, ↓reduceIte, Int.reduceToNat, Int.reduceLE, Int.reduceLT, Int.reduceEq, reduceCtorEq, hds, a])
    all_goals
      have hcs : t.cls.length = sc := by
        have h : decide ((t.cls.length : Int) = (sc : Int)) = true := by assumption
        have := of_decide_eq_true h
        omega
      have hok : nodeR p.ds p.pf (hasB V) (hasB L) t = ((t.cls.isEmpty || clsNames (xtorsOf p.ds t.ty) t.cls) && (if t.op = 0 then hasB V t.name else if t.op = 12 then hasB L t.name else if t.op = 8 ∨ t.op = 11 then nameB t.name else true)) := by
        have has : t.args.length = sa := by
          have h : decide ((t.args.length : Int) = (sa : Int)) = true := by assumption
          have := of_decide_eq_true h
          omega
        simp only [decide_eq_true_eq, decide_eq_false_iff_not, gt_iff_lt, Int.not_lt] at *
        rw [nodeR, hs]
        simp [*, typB]
      refine aw_loopX 128 (fun k : Nat => [(1, strsAV h1 V), (2, strsAV h2 L), (4, .ref q1 [.lst 3 p.hd (p.ds.map DeclG.av), .lst 9 p.hf (p.fs.map FunG.av)]), (7, .ref q2 [.v (.int .i64 t.op), .v (.int .i64 t.n), .v (.string (bs t.name)), .v (.int .i64 t.ty), .lst 6 t.ha (t.args.map TermG.av), .lst 7 t.hc (t.cls.map ClauseG.av)]), (83, .lst 7 t.hc (t.cls.map ClauseG.av)), (84, .v (.int .i64 t.cls.length)), (85, .v (.int .i64 k))])
        (fun _ => hp1) (fun k => k ≤ t.cls.length ∧ clsNames ((xtorsOf p.ds t.ty).drop k) (t.cls.drop k) = clsNames (xtorsOf p.ds t.ty) t.cls) (fun k => t.cls.length - k) 0 ⟨Nat.zero_le _, rfl⟩ (le_mkSl rfl (by simp only [hds, go_sem, Nat.reduceEqDiff, Nat.reduceAdd, Nat.reduceSub, Nat.reduceLT, Nat.reduceBEq, Nat.reduceLeDiff, ↓reduceIte, Int.reduceToNat, Int.reduceLE, Int.reduceLT, Int.reduceEq, reduceCtorEq]; exact Hp.le_refl _) (by simp [go_sem])) ?_
      rintro k ⟨hk, hcn⟩
      refine awp_sound (mu := []) _ _ _ ?_
      simp only [go_sem, Nat.reduceEqDiff, Nat.reduceAdd, Nat.reduceSub, Nat.reduceLT, Nat.reduceBEq, Nat.reduceLeDiff, ↓reduceIte, Int.reduceToNat, Int.reduceLE, Int.reduceLT, Int.reduceEq, reduceCtorEq]
      refine brK_mk (fun b1 => ?_) (fun b1 => ?_) <;> simp only [go_sem, Nat.reduceEqDiff, Nat.reduceAdd, Nat.reduceSub, Nat.reduceLT, Nat.reduceBEq, Nat.reduceLeDiff, ↓reduceIte, Int.reduceToNat, Int.reduceLE, Int.reduceLT, Int.reduceEq, reduceCtorEq, b1]
      · have hk' : k < t.cls.length := by simpa using b1
        obtain ⟨c, hc⟩ := someAt t.cls k hk'
        have hwu := upK k _ hk' hlc
        obtain ⟨hx1, dt, hx2⟩ := shape_cls hs (by simp only; omega)
        simp only at hx1
        obtain ⟨ht1, ht2⟩ := data_ty hx2
        have hwt : IntKind.i64.wrap (t.ty - 1) = t.ty - 1 := typ_wrap hdl (by omega) ht2
        obtain ⟨d, hd⟩ := someAt p.ds (t.ty - 1).toNat (by omega)
        have hxs : xtorsOf p.ds t.ty = d.xtors := by simp only [xtorsOf, hd, Option.map_some, Option.getD_some]
        obtain ⟨x, hx⟩ := someAt (xtorsOf p.ds t.ty) k (by omega)
        have hx' : d.xtors[k]? = some x := by rw [← hxs]; exact hx
        have hxl := hsm d (List.mem_of_getElem? hd) x (List.mem_of_getElem? hx')
        have hpl := prods_len x
        rw [dropK hc, dropK hx, clsNames] at hcn
        simp only [go_sem, Nat.reduceEqDiff, Nat.reduceAdd, Nat.reduceSub, Nat.reduceLT, Nat.reduceBEq, Nat.reduceLeDiff, ↓reduceIte, Int.reduceToNat, Int.reduceLE, Int.reduceLT, Int.reduceEq, reduceCtorEq, mapAt ClauseG.av _ _ _ hc, ClauseG.av, ClauseG.cs_eq]
        intro v hv
        have hdv := fun T cs => Hp.del_set _ _ T cs hv.1
        simp only [go_sem, Nat.reduceEqDiff, Nat.reduceAdd, Nat.reduceSub, Nat.reduceLT, Nat.reduceBEq, Nat.reduceLeDiff, ↓reduceIte, Int.reduceToNat, Int.reduceLE, Int.reduceLT, Int.reduceEq, reduceCtorEq, hdv]
        refine draw_by (mu := []) (fun _ => True) (.take 0 (.take 1 (.take 2 (.take 3 (.take 4 (.take 5 (.take 6 (.take 7 (.take 8 (.take 9 (.take 10 (.take 11 (.take 12 (.br 13 (.take 14 (.br 15 (.take 16 (.done)) (.stop))) (.stop))))))))))))))) (by decide +kernel) trivial (by decide +kernel) (by decide +kernel) ?_
        simp only [go_sem, Nat.reduceEqDiff, Nat.reduceAdd, Nat.reduceSub, Nat.reduceLT, Nat.reduceBEq, Nat.reduceLeDiff, ↓reduceIte, Int.reduceToNat, Int.reduceLE, Int.reduceLT, Int.reduceEq, reduceCtorEq, hwt, mapAt DeclG.av _ _ _ hd, DeclG.av, DeclG.cs, mapAt XtorG.av _ _ _ hx', XtorG.av, XtorG.cs]
        refine ⟨by omega, fun _ _ => by omega, ?_⟩
        refine callX_by (rproducers_calls x hxl _) ?_
        rintro r hp2 ⟨h31, rfl, rfl⟩
        simp only [go_sem, Nat.reduceEqDiff, Nat.reduceAdd, Nat.reduceSub, Nat.reduceLT, Nat.reduceBEq, Nat.reduceLeDiff, ↓reduceIte, Int.reduceToNat, Int.reduceLE, Int.reduceLT, Int.reduceEq, reduceCtorEq, intsAV, List.length_map, hpl]
        have cn := names_calls c.hn c.names (prodN x) (hp1.setSp ((3, 1, h31) :: hp1.sp))
        simp only [strsAV] at cn
        refine callX_by cn ?_
        rintro r hp2 ⟨rfl, rfl⟩
        simp only [go_sem, Nat.reduceEqDiff, Nat.reduceAdd, Nat.reduceSub, Nat.reduceLT, Nat.reduceBEq, Nat.reduceLeDiff, ↓reduceIte, Int.reduceToNat, Int.reduceLE, Int.reduceLT, Int.reduceEq, reduceCtorEq]
        refine brK_mk (fun b2 => ?_) (fun b2 => ?_) <;> simp only [go_sem, Nat.reduceEqDiff, Nat.reduceAdd, Nat.reduceSub, Nat.reduceLT, Nat.reduceBEq, Nat.reduceLeDiff, ↓reduceIte, Int.reduceToNat, Int.reduceLE, Int.reduceLT, Int.reduceEq, reduceCtorEq, b2, hwu]
        · refine ⟨k + 1, by omega, ⟨by omega, ?_⟩, le_mkSl rfl (Hp.le_addSp _ _) (by simp [go_sem, hwu])⟩
          rw [← hcn]
          rw [Bool.and_comm] at b2
          rw [b2, Bool.true_and]
        · refine ret_le (Hp.le_addSp _ _) ⟨?_, rfl⟩
          rw [hok, ← hcn]
          rw [Bool.and_comm] at b2
          rw [b2, Bool.false_and]
          have : t.cls.isEmpty = false := by cases h : t.cls with
            | nil => rw [h] at hk'; simp at hk'
            | cons _ _ => rfl
          rw [this]; rfl
      · have e : k = t.cls.length := by simp at b1; omega
        have hcls : (t.cls.isEmpty || clsNames (xtorsOf p.ds t.ty) t.cls) = true := by
          cases h : t.cls with
          | nil => rfl
          | cons c0 r0 =>
            rw [List.isEmpty_cons, Bool.false_or, ← h, ← hcn, e]
            have hx1 := (shape_cls hs (by simp only; rw [← hcs, h]; simp)).1
            simp only at hx1
            rw [List.drop_of_length_le (Nat.le_refl _), List.drop_of_length_le (by omega), clsNames]
        rw [hcls, Bool.true_and] at hok
        by_cases o0 : t.op = 0
        · simp only [go_sem, Nat.reduceEqDiff, Nat.reduceAdd, Nat.reduceSub, Nat.reduceLT, Nat.reduceBEq, Nat.reduceLeDiff, ↓reduceIte, Int.reduceToNat, Int.reduceLE, Int.reduceLT, Int.reduceEq, reduceCtorEq, o0]
          refine callX_by (in_calls h1 V t.name hp1) ?_
          rintro r hp2 ⟨rfl, rfl⟩
          simp only [go_sem, Nat.reduceEqDiff, Nat.reduceAdd, Nat.reduceSub, Nat.reduceLT, Nat.reduceBEq, Nat.reduceLeDiff, ↓reduceIte, Int.reduceToNat, Int.reduceLE, Int.reduceLT, Int.reduceEq, reduceCtorEq]
          exact ret_same ⟨by rw [hok, if_pos o0], rfl⟩
        · by_cases o12 : t.op = 12
          · simp only [go_sem, Nat.reduceEqDiff, Nat.reduceAdd, Nat.reduceSub, Nat.reduceLT, Nat.reduceBEq, Nat.reduceLeDiff, ↓reduceIte, Int.reduceToNat, Int.reduceLE, Int.reduceLT, Int.reduceEq, reduceCtorEq, o12]
            refine callX_by (in_calls h2 L t.name hp1) ?_
            rintro r hp2 ⟨rfl, rfl⟩
            simp only [go_sem, Nat.reduceEqDiff, Nat.reduceAdd, Nat.reduceSub, Nat.reduceLT, Nat.reduceBEq, Nat.reduceLeDiff, ↓reduceIte, Int.reduceToNat, Int.reduceLE, Int.reduceLT, Int.reduceEq, reduceCtorEq]
            exact ret_same ⟨by rw [hok, if_neg o0, if_pos o12], rfl⟩
          · by_cases o8 : t.op = 8
            · simp only [go_sem, Nat.reduceEqDiff, Nat.reduceAdd, Nat.reduceSub, Nat.reduceLT, Nat.reduceBEq, Nat.reduceLeDiff, ↓reduceIte, Int.reduceToNat, Int.reduceLE, Int.reduceLT, Int.reduceEq, reduceCtorEq, o8]
              refine callX_by (rname_calls t.name hp1) ?_
              rintro r hp2 ⟨rfl, rfl⟩
              simp only [go_sem, Nat.reduceEqDiff, Nat.reduceAdd, Nat.reduceSub, Nat.reduceLT, Nat.reduceBEq, Nat.reduceLeDiff, ↓reduceIte, Int.reduceToNat, Int.reduceLE, Int.reduceLT, Int.reduceEq, reduceCtorEq]
              exact ret_same ⟨by rw [hok, if_neg o0, if_neg o12, if_pos (Or.inl o8), name_same], rfl⟩
            · by_cases o11 : t.op = 11
              · simp only [go_sem, Nat.reduceEqDiff, Nat.reduceAdd, Nat.reduceSub, Nat.reduceLT, Nat.reduceBEq, Nat.reduceLeDiff, ↓reduceIte, Int.reduceToNat, Int.reduceLE, Int.reduceLT, Int.reduceEq, reduceCtorEq, o11]
                refine callX_by (rname_calls t.name hp1) ?_
                rintro r hp2 ⟨rfl, rfl⟩
                simp only [go_sem, Nat.reduceEqDiff, Nat.reduceAdd, Nat.reduceSub, Nat.reduceLT, Nat.reduceBEq, Nat.reduceLeDiff, ↓reduceIte, Int.reduceToNat, Int.reduceLE, Int.reduceLT, Int.reduceEq, reduceCtorEq]
                exact ret_same ⟨by rw [hok, if_neg o0, if_neg o12, if_pos (Or.inr o11), name_same], rfl⟩
              · simp only [go_sem, Nat.reduceEqDiff, Nat.reduceAdd, Nat.reduceSub, Nat.reduceLT, Nat.reduceBEq, Nat.reduceLeDiff, ↓reduceIte, Int.reduceToNat, Int.reduceLE, Int.reduceLT, Int.reduceEq, reduceCtorEq, decide_eq_false o0, decide_eq_false o12, decide_eq_false o8, decide_eq_false o11]
                exact ret_same ⟨by rw [hok, if_neg o0, if_neg o12, if_neg (by omega)], rfl⟩
end Go.Proofs.YtkoachnlimebaaaGreatDoor
/- The reference of the layer 'term': nodes are the same. -/
set_option linter.unusedSimpArgs false
set_option linter.unusedVariables false
set_option maxRecDepth 20000
set_option maxHeartbeats 4000000
namespace Go.Proofs.YtkoachnlimebaaaGreatDoor
open Go.AL

theorem isEmpty_len {α : Type} (l : List α) : l.isEmpty = decide (l.length = 0) := by cases l <;> simp
theorem data_prodN {ds : List DeclG} (hs : sourceB ds = true) {t n : Int} (hd : dataB ds t false = true) (hn : hasN ds t n = true) : ∃ x, (xtorsOf ds t)[n.toNat]? = some x ∧ prodN x = x.args.length := by
  obtain ⟨h1, h2⟩ := data_ty hd
  obtain ⟨d, hdl⟩ := someAt ds (t - 1).toNat (by omega)
  have hxs : xtorsOf ds t = d.xtors := by simp only [xtorsOf, hdl, Option.map_some, Option.getD_some]
  have hh := hn
  simp only [hasN, hxs, Bool.and_eq_true, decide_eq_true_eq] at hh
  obtain ⟨x, hx⟩ := someAt d.xtors n.toNat (by omega)
  refine ⟨x, by rw [hxs]; exact hx, ?_⟩
  have hco : d.codata = false := by
    simp only [dataB, codataB, hdl, Option.map_some, Option.getD_some, Bool.and_eq_true, beq_iff_eq] at hd; exact hd.2
  simp only [sourceB, List.all_eq_true] at hs
  have := hs d (List.mem_of_getElem? hdl) x (List.mem_of_getElem? hx)
  rw [hco] at this
  simp only [sourceX, Bool.false_eq_true, if_false] at this
  rw [prodN, List.filter_eq_self.2 (by simpa using this)]
theorem has_at {ds : List DeclG} {t n : Int} (hn : hasN ds t n = true) : ∃ x, (xtorsOf ds t)[n.toNat]? = some x := by
  simp only [hasN, Bool.and_eq_true, decide_eq_true_eq] at hn
  exact someAt _ _ (by omega)
theorem data_typB {ds : List DeclG} {t : Int} {b : Bool} (h : dataB ds t b = true) : typB ds t = true := by
  obtain ⟨h1, h2⟩ := data_ty h
  simp [typB]; omega
theorem node_same {ds : List DeclG} (hs : sourceB ds = true) (hp8 : ds.length ≤ 8) {pf : List Nat} {V L : Bytes → Bool} {t : TermG} : nodeR ds pf V L t = nodeB ds pf V L t := by
  by_cases o0 : t.op = 0
  · rw [Bool.eq_iff_iff]; simp [nodeR, shapeS, nodeB, o0, isEmpty_len]; try grind
  by_cases o1 : t.op = 1
  · rw [Bool.eq_iff_iff]; simp [nodeR, shapeS, nodeB, o1, isEmpty_len]; try grind
  by_cases o2 : t.op = 2
  · rw [Bool.eq_iff_iff]; simp [nodeR, shapeS, nodeB, o2, isEmpty_len]; try grind
  by_cases o3 : t.op = 3
  · rw [Bool.eq_iff_iff]; simp [nodeR, shapeS, nodeB, o3, isEmpty_len]; try grind
  by_cases o8 : t.op = 8
  · rw [Bool.eq_iff_iff]; simp [nodeR, shapeS, nodeB, o8, isEmpty_len]; try grind
  by_cases o10 : t.op = 10
  · rw [Bool.eq_iff_iff]; simp [nodeR, shapeS, nodeB, o10, isEmpty_len]; try grind
  by_cases o11 : t.op = 11
  · rw [Bool.eq_iff_iff]; simp [nodeR, shapeS, nodeB, o11, isEmpty_len]; try grind
  by_cases o12 : t.op = 12
  · rw [Bool.eq_iff_iff]; simp [nodeR, shapeS, nodeB, o12, isEmpty_len]; try grind
  by_cases o9 : t.op = 9
  · cases hc : (decide (t.n < 0) || decide (t.n ≥ (pf.length : Int))) with
    | true =>
      have h1 : nodeR ds pf V L t = false := by simp only [nodeR, shapeS, o9, hc]; rfl
      rw [h1]
      symm
      rw [Bool.eq_false_iff]
      intro h
      simp [nodeB, o9] at h
      simp only [Bool.or_eq_true, decide_eq_true_eq] at hc
      have := (List.getElem?_eq_some_iff.1 h.2).1
      have := h.1.1.1.1
      omega
    | false =>
      simp only [Bool.or_eq_false_iff, decide_eq_false_iff_not] at hc
      obtain ⟨m, hm⟩ := someAt pf t.n.toNat (by omega)
      have h1 : shapeS ds pf t = some ⟨false, false, true, m, 0⟩ := by
        simp only [shapeS, o9, hm, Option.getD_some]
        rw [decide_eq_false hc.1, decide_eq_false hc.2]; rfl
      rw [Bool.eq_iff_iff]; simp [nodeR, h1, nodeB, o9, isEmpty_len, hm]; grind
  by_cases o4 : t.op = 4
  · cases hc : (dataB ds t.ty false && hasN ds t.ty t.n) with
    | false => simp [nodeR, shapeS, o4, hc, nodeB]
    | true =>
      have hc' := hc
      rw [Bool.and_eq_true] at hc'
      obtain ⟨x, hx, hp⟩ := data_prodN hs hc'.1 hc'.2
      have h1 : shapeS ds pf t = some ⟨false, true, true, x.args.length, 0⟩ := by simp only [shapeS, o4, hc, xtorAt, hx]; rfl
      rw [Bool.eq_iff_iff]; simp [nodeR, h1, nodeB, o4, isEmpty_len, hx, hp, hc'.1, hc'.2, data_typB hc'.1]; grind
  by_cases o5 : t.op = 5
  · cases hc : dataB ds t.ty false with
    | false => simp [nodeR, shapeS, o5, hc, nodeB]
    | true =>
      have h1 : shapeS ds pf t = some ⟨false, true, false, 1, (xtorsOf ds t.ty).length⟩ := by simp only [shapeS, o5, hc]; rfl
      have h2 : (decide (t.cls.length = (xtorsOf ds t.ty).length) && (t.cls.isEmpty || clsNames (xtorsOf ds t.ty) t.cls)) = clsNames (xtorsOf ds t.ty) t.cls := by
        by_cases e : (xtorsOf ds t.ty).length = t.cls.length
        · rw [decide_eq_true e.symm, Bool.true_and]
          cases hcl : t.cls with
          | nil => rw [hcl] at e; rw [List.eq_nil_of_length_eq_zero e, clsNames]; rfl
          | cons c r => rfl
        · rw [clsNames_len _ _ e, decide_eq_false (fun h => e h.symm), Bool.false_and]
      simp only [nodeR, h1, nodeB, o5, hc, data_typB hc]
      rw [← h2]
      rw [Bool.eq_iff_iff]; simp; try grind
  by_cases o6 : t.op = 6
  · cases hc : (dataB ds t.ty true && hasN ds t.ty t.n) with
    | false => simp [nodeR, shapeS, o6, hc, nodeB]
    | true =>
      have hc' := hc
      rw [Bool.and_eq_true] at hc'
      obtain ⟨x, hx⟩ := has_at hc'.2
      have h1 : shapeS ds pf t = some ⟨false, true, true, 1 + prodN x, 0⟩ := by simp only [shapeS, o6, hc, xtorAt, hx]; rfl
      rw [Bool.eq_iff_iff]; simp [nodeR, h1, nodeB, o6, isEmpty_len, hx, hc'.1, hc'.2, data_typB hc'.1]; grind
  by_cases o7 : t.op = 7
  · cases hc : dataB ds t.ty true with
    | false => simp [nodeR, shapeS, o7, hc, nodeB]
    | true =>
      have h1 : shapeS ds pf t = some ⟨false, true, false, 0, (xtorsOf ds t.ty).length⟩ := by simp only [shapeS, o7, hc]; rfl
      have h2 : (decide (t.cls.length = (xtorsOf ds t.ty).length) && (t.cls.isEmpty || clsNames (xtorsOf ds t.ty) t.cls)) = clsNames (xtorsOf ds t.ty) t.cls := by
        by_cases e : (xtorsOf ds t.ty).length = t.cls.length
        · rw [decide_eq_true e.symm, Bool.true_and]
          cases hcl : t.cls with
          | nil => rw [hcl] at e; rw [List.eq_nil_of_length_eq_zero e, clsNames]; rfl
          | cons c r => rfl
        · rw [clsNames_len _ _ e, decide_eq_false (fun h => e h.symm), Bool.false_and]
      simp only [nodeR, h1, nodeB, o7, hc, data_typB hc]
      rw [← h2]
      rw [Bool.eq_iff_iff]; simp; try grind
  · simp [nodeR, shapeS, nodeB, o0, o1, o2, o3, o4, o5, o6, o7, o8, o9, o10, o11, o12]
end Go.Proofs.YtkoachnlimebaaaGreatDoor
