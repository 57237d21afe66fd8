/- The law of the layer 'check': its fixed calls. -/
import Derived.Test.YtppoacgeiooppaaGreatCT22
import Derived.Test.YtppoacgeiooppaaGreatCT40
import Derived.Test.YtppoacgeiooppaaGreatCAL36
set_option linter.unusedSimpArgs false
set_option linter.unusedVariables false
set_option maxRecDepth 20000
set_option maxHeartbeats 4000000
namespace Go.Proofs.YtppoacgeiooppaaGreat
open Go.AL

abbrev nilV : Value := .slice none 0 0
def xTwo : TermG := .mk 1 2 [] 0 nilV [] nilV []
def xNull : TermG := .mk 4 0 [] 1 nilV [] nilV []
def xCon (h : Value) (x : TermG) : TermG := .mk 4 1 [] 1 h [xTwo, x] nilV []
def xLet (h1 h2 : Value) (x : TermG) : TermG := .mk 8 0 [120] 1 h1 [xCon h2 x, xTwo] nilV []
def xDecl (a1 a2 : Value) : DeclG := ⟨[108, 105, 115, 116], false, a2, [⟨[78, 105, 108], nilV, []⟩, ⟨[67, 111, 110, 115], a1, [⟨0, false⟩, ⟨1, false⟩]⟩]⟩
def xProg (a1 a2 a3 a26 a29 h23 : Value) (x : TermG) : ProgG := ⟨a3, [xDecl a1 a2], a29, [⟨[109, 97, 105, 110], nilV, [], 0, xLet a26 h23 x⟩]⟩
def xVar : TermG := .mk 0 0 [120] 0 nilV [] nilV []
def xPs : List ParamG := [⟨[120], 0⟩, ⟨[120], 1⟩]
def nv : AV := .v nilV
def xTwoV : AV := .agg [.v (.int .i64 1), .v (.int .i64 2), .v (.string (bs [])), .v (.int .i64 0), nv, nv]
def xNullV : AV := .agg [.v (.int .i64 4), .v (.int .i64 0), .v (.string (bs [])), .v (.int .i64 1), nv, nv]
def xVarV : AV := .agg [.v (.int .i64 0), .v (.int .i64 0), .v (.string (bs [120])), .v (.int .i64 0), nv, nv]
def xDeclV (a1 a2 : Value) : AV := .agg [.v (.string (bs [108, 105, 115, 116])), .v (.bool false), .lst 2 a2 [.agg [.v (.string (bs [78, 105, 108])), nv], .agg [.v (.string (bs [67, 111, 110, 115])), .lst 2 a1 [.agg [.v (.int .i64 0), .v (.bool false)], .agg [.v (.int .i64 1), .v (.bool false)]]]]]
def xProgV (a1 a2 a3 a26 a29 h23 : Value) : AV := .agg [.lst 3 a3 [xDeclV a1 a2], .lst 9 a29 [.agg [.v (.string (bs [109, 97, 105, 110])), nv, .v (.int .i64 0), .v (.int .i64 8), .v (.int .i64 0), .v (.string (bs [120])), .v (.int .i64 1), .lst 6 a26 [.agg [.v (.int .i64 4), .v (.int .i64 1), .v (.string (bs [])), .v (.int .i64 1), .v h23, nv], xTwoV], nv]]]
theorem xTwo_ok (m : Mem) : xTwo.av.ok m := by
  simp only [xTwo, TermG.av, TermG.cs_eq]
  exact ⟨trivial, trivial, trivial, trivial, (Cast.nil 6).2 m trivial, (Cast.nil 7).2 m trivial, trivial⟩
theorem xNull_ok (m : Mem) : xNull.av.ok m := by
  simp only [xNull, TermG.av, TermG.cs_eq]
  exact ⟨trivial, trivial, trivial, trivial, (Cast.nil 6).2 m trivial, (Cast.nil 7).2 m trivial, trivial⟩
theorem xVar_ok (m : Mem) : xVar.av.ok m := by
  simp only [xVar, TermG.av, TermG.cs_eq]
  exact ⟨trivial, trivial, trivial, trivial, (Cast.nil 6).2 m trivial, (Cast.nil 7).2 m trivial, trivial⟩
theorem xProg_ok {a1 a2 a3 a26 a29 h23 : Value} {x : TermG} {m : Mem} (h : (xProgV a1 a2 a3 a26 a29 h23).ok m) (hr : (AV.lst 6 h23 [xTwo.av, x.av]).ok m) : (xProg a1 a2 a3 a26 a29 h23 x).av.ok m := by
  obtain ⟨⟨k3, ⟨_, _, ⟨k2, ⟨⟨y1, _, _⟩, y⟩⟩, _⟩, _⟩, ⟨k29, ⟨_, _, _, _, _, _, _, ⟨k26, ⟨_, _, _, _, _, _, _⟩, tw, _⟩, _, _⟩, _⟩, _⟩ := h
  simp only [xProg, ProgG.av, ProgG.cs, declsAV, funsAV, List.map_cons, List.map_nil, DeclG.av, DeclG.cs, xDecl, XtorG.av, XtorG.cs, FunG.av, FunG.cs, xLet, TermG.op, TermG.n, TermG.name, TermG.ty, TermG.ha, TermG.hc, TermG.args, TermG.cls, paramsAV, xCon]
  refine ⟨⟨k3, ⟨trivial, trivial, ⟨k2, ⟨⟨y1, (Cast.nil 2).2 m trivial, trivial⟩, y⟩⟩, trivial⟩, trivial⟩, ⟨k29, ⟨trivial, (Cast.nil 2).2 m trivial, trivial, trivial, trivial, trivial, trivial, ⟨k26, ?_, xTwo_ok m, trivial⟩, (Cast.nil 7).2 m trivial, trivial⟩, trivial⟩, trivial⟩
  show AV.ok m (TermG.av _)
  simp only [TermG.av, TermG.cs_eq, TermG.op, TermG.n, TermG.name, TermG.ty, TermG.ha, TermG.hc, TermG.args, TermG.cls, List.map_cons, List.map_nil]
  simp only [TermG.av, TermG.cs_eq] at hr
  exact ⟨trivial, trivial, trivial, trivial, hr, (Cast.nil 7).2 m trivial, trivial⟩
theorem x_type (a1 a2 a3 a26 a29 h23 : Value) : typeN (xProg a1 a2 a3 a26 a29 h23 xNull) xPs [] xVar = (1, 0) := by kernel_rfl
theorem x_check1 (a1 a2 a3 a26 a29 h23 : Value) : checkN (xProg a1 a2 a3 a26 a29 h23 xNull) = 0 := by kernel_rfl
theorem x_check2 (a1 a2 a3 a26 a29 h23 : Value) : checkN (xProg a1 a2 a3 a26 a29 h23 xTwo) = 40 := by kernel_rfl
theorem x_prog2 (a1 a2 a3 a26 a29 h23 : Value) : progB (xProg a1 a2 a3 a26 a29 h23 xTwo) = true := by kernel_rfl
theorem x_fault (a1 a2 a3 a26 a29 h23 : Value) : faultF (xProg a1 a2 a3 a26 a29 h23 xTwo).ds (xProg a1 a2 a3 a26 a29 h23 xTwo).fs 0 (xProg a1 a2 a3 a26 a29 h23 xTwo).fs = some (0, [0]) := by kernel_rfl
theorem x_lendok {base : Nat} {hp : Hp} {m : Mem} {w : World} {a1 a2 a3 a26 a29 : Value} {b : Nat} {T : TypeId} {cs : List AV} {x : TermG} (hx : ∀ m, x.av.ok m) (h : HpOk base hp m w) (hb : hp.blk b = some (T, cs)) (hc : AV.vals cs = AV.vals (xTwo.av.cells ++ x.av.cells)) (ho : (xProgV a1 a2 a3 a26 a29 (.slice (some ⟨b, 0, none⟩) 2 2)).ok m) :
    (xProg a1 a2 a3 a26 a29 (.slice (some ⟨b, 0, none⟩) 2 2) x).av.ok (memOf w) := by
  refine xProg_ok (AV.ok_mono (le_memOf h) _ ho) (lend_row h hb (rest := []) (by rw [hc]; simp) (by
    intro y hy
    rcases List.mem_cons.1 hy with rfl | hy
    · simp [TermG.av, TermG.cs_eq, AV.cells]
    · rcases List.mem_cons.1 hy with rfl | hy
      · simp [TermG.av, TermG.cs_eq, AV.cells]
      · cases hy) rfl (Nat.le_refl _) (by simp [maxLen]) ⟨xTwo_ok _, hx _, trivial⟩)
theorem x_cells (x : TermG) : x.av.cells = x.cs := rfl
section
variable {hp : Hp} {a1 a2 a3 a26 a29 : Value} {b : Nat} {T : TypeId} {cs : List AV} {x : TermG}
theorem x_type_calls (hg : GOk hp) (hx : ∀ m, x.av.ok m) (hb : hp.blk b = some (T, cs)) (hc : AV.vals cs = AV.vals (xTwo.av.cells ++ x.av.cells)) (hd : Value) :
    ACalls Tryz.prog 16 [xProgV a1 a2 a3 a26 a29 (.slice (some ⟨b, 0, none⟩) 2 2), .lst 2 hd (xPs.map ParamG.av), nv, xVarV] hp (fun r hp' => r = .tup [.v (.int .i64 (typeN (xProg a1 a2 a3 a26 a29 (.slice (some ⟨b, 0, none⟩) 2 2) x) xPs [] xVar).1), .v (.int .i64 (typeN (xProg a1 a2 a3 a26 a29 (.slice (some ⟨b, 0, none⟩) 2 2) x) xPs [] xVar).2)] ∧ hp' = hp) :=
  acalls_lend (args' := [(xProg a1 a2 a3 a26 a29 (.slice (some ⟨b, 0, none⟩) 2 2) x).av, paramsAV hd xPs, paramsAV nilV [], xVar.av]) rfl
    (fun base m w h ho => ⟨x_lendok hx h hb hc ho.1, AV.ok_mono (le_memOf h) _ ho.2.1, (Cast.nil 2).2 _ trivial, xVar_ok _, trivial⟩)
    (R := fun r => r = _) (fun r hr m => by subst hr; exact ⟨trivial, trivial, trivial⟩)
    ((ctype_calls (xProg a1 a2 a3 a26 a29 (.slice (some ⟨b, 0, none⟩) 2 2) x) (fun f hf => by
      rcases List.mem_cons.1 hf with rfl | hf
      · simp
      · cases hf) hd nilV xPs [] (by decide) (by decide) xVar (bareHp hp) hg).mono fun r hp' h => h.1)
theorem x_check_calls (hg : GOk hp) (hx : ∀ m, x.av.ok m) (hb : hp.blk b = some (T, cs)) (hc : AV.vals cs = AV.vals (xTwo.av.cells ++ x.av.cells)) :
    ACalls Tryz.prog 10 [xProgV a1 a2 a3 a26 a29 (.slice (some ⟨b, 0, none⟩) 2 2)] hp (fun r hp' => r = .v (.int .i64 (checkN (xProg a1 a2 a3 a26 a29 (.slice (some ⟨b, 0, none⟩) 2 2) x))) ∧ hp' = hp) :=
  acalls_lend (args' := [(xProg a1 a2 a3 a26 a29 (.slice (some ⟨b, 0, none⟩) 2 2) x).av]) rfl
    (fun base m w h ho => ⟨x_lendok hx h hb hc ho.1, trivial⟩)
    (R := fun r => r = _) (fun r hr m => by subst hr; trivial)
    ((ccheck_calls (xProg a1 a2 a3 a26 a29 (.slice (some ⟨b, 0, none⟩) 2 2) x) (fun f hf => by
      rcases List.mem_cons.1 hf with rfl | hf
      · simp
      · cases hf) (bareHp hp) hg).mono fun r hp' h => h.1)
theorem x_fault_calls (hg : GOk hp) (hb : hp.blk b = some (T, cs)) (hc : AV.vals cs = AV.vals (xTwo.av.cells ++ xTwo.av.cells)) :
    ACalls Tryz.prog 11 [xProgV a1 a2 a3 a26 a29 (.slice (some ⟨b, 0, none⟩) 2 2)] hp (fun r hp' => ∃ (b' cap : Nat) (rest : List AV), r = .tup [.v (.int .i64 0), .v (.slice (some ⟨b', 0, none⟩) 1 cap), .v (.bool true), .v (.int .i64 0)] ∧ 1 ≤ cap ∧ cap ≤ maxLen ∧ Fresh hp b' ∧ hp' = hp.setBlk b' 3 (.v (.int .i64 0) :: rest)) := by
  refine (acalls_own (e := 3) (sz := 1) (args := [xProgV a1 a2 a3 a26 a29 (.slice (some ⟨b, 0, none⟩) 2 2)]) (args' := [(xProg a1 a2 a3 a26 a29 (.slice (some ⟨b, 0, none⟩) 2 2) xTwo).av]) (C := fun pre xs post => pre = [.v (.int .i64 0)] ∧ xs = [.v (.int .i64 0)] ∧ post = [.v (.bool true), .v (.int .i64 0)]) rfl
    (fun base m w h ho => ⟨x_lendok xTwo_ok h hb hc ho.1, trivial⟩) (fun pre xs post h m => by obtain ⟨rfl, rfl, rfl⟩ := h; exact ⟨⟨trivial, trivial⟩, ⟨trivial, trivial⟩, ⟨trivial, trivial, trivial⟩⟩)
    ((cfault_calls (xProg a1 a2 a3 a26 a29 (.slice (some ⟨b, 0, none⟩) 2 2) xTwo) (fun f hf => by
      rcases List.mem_cons.1 hf with rfl | hf
      · simp
      · cases hf) (bareHp hp) hg).mono fun r hp' h => ?_)).mono ?_
  · rw [FaultE, if_pos (x_prog2 ..), x_fault] at h
    obtain ⟨h, rfl, rfl⟩ := h
    exact ⟨[.v (.int .i64 0)], h, [.v (.int .i64 0)], [.v (.bool true), .v (.int .i64 0)], ⟨rfl, rfl, rfl⟩, rfl, by simp [Hp.setSp]⟩
  · rintro r hp' ⟨pre, hd, xs, post, ⟨rfl, rfl, rfl⟩, rfl, hh⟩
    rcases hh with ⟨_, h, _⟩ | ⟨b', cap, rest, rfl, h1, h2, h3, rfl⟩
    · cases h
    · exact ⟨b', cap, rest, rfl, h1, h2, h3, rfl⟩
end
theorem awake4_calls (hp : Hp) (hg : GOk hp) : ACalls Tryz.prog 9 [] hp (fun r hp' => r = .v (.bool true) ∧ hp' = hp) := by
  refine acalls_of Tryz.func9 rfl (by decide +kernel) (awp_sound (mu := [23, 61]) _ _ _ ?_)
  simp only [go_sem, Nat.reduceEqDiff, Nat.reduceAdd, Nat.reduceSub, Nat.reduceLT, Nat.reduceMul, Nat.reduceBEq, Nat.reduceLeDiff, ↓reduceIte, Int.reduceToNat, Nat.reduceGT, Int.reduceLE, Int.reduceLT, Int.reduceGE, Int.reduceGT, Int.reduceEq, Int.reduceNe, reduceCtorEq]
  refine ⟨rfl, by simp, fun a1 => ⟨rfl, by simp, fun a2 => ⟨rfl, by simp, fun a3 b2 hb2 b3 hb3 => ?_⟩⟩⟩
  have hd2 := fun T cs => Hp.del_set _ _ T cs hb2.1
  simp only [hd2] at hb3
  have hd3 := fun T cs => Hp.del_set _ _ T cs hb3.1
  simp only [hd2, hd3]
  refine ⟨rfl, by simp, fun b23 hb23 => ⟨rfl, by simp, fun a26 => ⟨rfl, by simp, fun a29 b4 hb4 => ?_⟩⟩⟩
  have hd4 := fun T cs => Hp.del_set _ _ T cs hb4.1
  simp only [hd4]
  refine ⟨rfl, by simp, fun hd35 => ?_⟩
  have hc1 : AV.vals (List.flatMap AV.cells [xTwoV, xNullV]) = AV.vals (xTwo.av.cells ++ xNull.av.cells) := by
    simp [xTwoV, xNullV, xTwo, xNull, TermG.av, TermG.cs_eq, AV.cells, AV.vals, AV.val, nv]
    exact ⟨rfl, rfl, rfl, rfl, rfl, rfl, rfl, rfl, rfl, rfl, rfl, rfl⟩
  refine callX_by (x_type_calls (x := xNull) (b := b23) (T := 41) (cs := List.flatMap AV.cells [xTwoV, xNullV]) (by exact hg) xNull_ok (by simp [Hp.setBlk, Hp.setSp]; rfl) hc1 hd35) ?_
  rintro r hp1 ⟨rfl, rfl⟩
  simp only [go_sem, Nat.reduceEqDiff, Nat.reduceAdd, Nat.reduceSub, Nat.reduceLT, Nat.reduceMul, Nat.reduceBEq, Nat.reduceLeDiff, ↓reduceIte, Int.reduceToNat, Nat.reduceGT, Int.reduceLE, Int.reduceLT, Int.reduceGE, Int.reduceGT, Int.reduceEq, Int.reduceNe, reduceCtorEq, x_type]
  refine callX_by (x_check_calls (x := xNull) (b := b23) (T := 41) (cs := List.flatMap AV.cells [xTwoV, xNullV]) (by exact hg) xNull_ok (by simp [Hp.setBlk, Hp.setSp]; rfl) hc1) ?_
  rintro r hp1 ⟨rfl, rfl⟩
  simp only [go_sem, Nat.reduceEqDiff, Nat.reduceAdd, Nat.reduceSub, Nat.reduceLT, Nat.reduceMul, Nat.reduceBEq, Nat.reduceLeDiff, ↓reduceIte, Int.reduceToNat, Nat.reduceGT, Int.reduceLE, Int.reduceLT, Int.reduceGE, Int.reduceGT, Int.reduceEq, Int.reduceNe, reduceCtorEq, x_check1]
  refine draw_by (mu := [23, 61]) (fun _ => True) (.take 0 (.take 1 (.take 2 (.take 3 (.take 4 (.take 5 (.take 6 (.take 7 (.take 8 (.take 9 (.take 10 (.br 11 (.done) (.stop))))))))))))) (by decide +kernel) trivial (by decide +kernel) (by decide +kernel) ?_
  simp only [go_sem, Nat.reduceEqDiff, Nat.reduceAdd, Nat.reduceSub, Nat.reduceLT, Nat.reduceMul, Nat.reduceBEq, Nat.reduceLeDiff, ↓reduceIte, Int.reduceToNat, Nat.reduceGT, Int.reduceLE, Int.reduceLT, Int.reduceGE, Int.reduceGT, Int.reduceEq, Int.reduceNe, reduceCtorEq, List.flatMap_cons, List.flatMap_nil, AV.cells, List.getElem?_cons_zero, List.length_cons, List.length_nil]
  have hc2 : AV.vals (List.flatMap AV.cells [xTwoV, xTwoV]) = AV.vals (xTwo.av.cells ++ xTwo.av.cells) := by
    simp [xTwoV, xTwo, TermG.av, TermG.cs_eq, AV.cells, AV.vals, AV.val, nv]
    exact ⟨rfl, rfl, rfl, rfl, rfl, rfl, rfl, rfl, rfl, rfl, rfl, rfl⟩
  refine callX_by (x_fault_calls (b := b23) (T := 41) (cs := List.flatMap AV.cells [xTwoV, xTwoV]) (by exact hg) (by simp [Hp.setBlk, Hp.setSp]; rfl) hc2) ?_
  rintro r hp1 ⟨b', cap, rest, rfl, h1, h2, hf, rfl⟩
  have hne : b23 ≠ b' := by rintro rfl; have := hf.1; simp [Hp.setBlk] at this
  simp only [go_sem, Nat.reduceEqDiff, Nat.reduceAdd, Nat.reduceSub, Nat.reduceLT, Nat.reduceMul, Nat.reduceBEq, Nat.reduceLeDiff, ↓reduceIte, Int.reduceToNat, Nat.reduceGT, Int.reduceLE, Int.reduceLT, Int.reduceGE, Int.reduceGT, Int.reduceEq, Int.reduceNe, reduceCtorEq]
  refine callX_by (x_check_calls (x := xTwo) (b := b23) (T := 41) (cs := List.flatMap AV.cells [xTwoV, xTwoV]) (by exact hg) xTwo_ok (by simp [Hp.setBlk, Hp.setSp, hne]; rfl) hc2) ?_
  rintro r hp1 ⟨rfl, rfl⟩
  simp only [go_sem, Nat.reduceEqDiff, Nat.reduceAdd, Nat.reduceSub, Nat.reduceLT, Nat.reduceMul, Nat.reduceBEq, Nat.reduceLeDiff, ↓reduceIte, Int.reduceToNat, Nat.reduceGT, Int.reduceLE, Int.reduceLT, Int.reduceGE, Int.reduceGT, Int.reduceEq, Int.reduceNe, reduceCtorEq, x_check2]
  refine ⟨rfl, by simp, fun hd78 => ?_⟩
  refine callX_by (acalls_pubT (pre := []) (post := [.lst 1 hd78 [.v (.int .i64 0)]]) (sz := 1) (b := b') (n := 1) (cap := cap) (T := 3) (cs := .v (.int .i64 0) :: rest) (xs := [.v (.int .i64 0)]) (rest := rest) (by simp [Hp.setBlk, Hp.setSp]) rfl (by simp [AV.cells]) rfl h1 h2 (fun m _ => ⟨trivial, trivial⟩) (sameInts_calls _ hd78 [0] [0] _)) ?_
  rintro r hp1 ⟨rfl, rfl⟩
  simp only [go_sem, Nat.reduceEqDiff, Nat.reduceAdd, Nat.reduceSub, Nat.reduceLT, Nat.reduceMul, Nat.reduceBEq, Nat.reduceLeDiff, ↓reduceIte, Int.reduceToNat, Nat.reduceGT, Int.reduceLE, Int.reduceLT, Int.reduceGE, Int.reduceGT, Int.reduceEq, Int.reduceNe, reduceCtorEq]
  have hn23 : hp.blk b23 = none := hb23.1
  have hnb : hp.blk b' = none := by have := hf.1; simpa [Hp.setBlk, Hp.setSp, Ne.symm hne] using this
  refine ret_le (hp' := hp) ⟨fun i x hi => ?_, fun _ _ h => h, ?_, fun _ h => h⟩ ⟨rfl, rfl⟩
  · have e1 : i ≠ b23 := by rintro rfl; rw [hn23] at hi; cases hi
    have e2 : i ≠ b' := by rintro rfl; rw [hnb] at hi; cases hi
    simpa [Hp.setBlk, Hp.setSp, Hp.delBlk, e1, e2] using hi
  · simp only [go_sem, Nat.reduceEqDiff, Nat.reduceAdd, Nat.reduceSub, Nat.reduceLT, Nat.reduceMul, Nat.reduceBEq, Nat.reduceLeDiff, ↓reduceIte, Int.reduceToNat, Nat.reduceGT, Int.reduceLE, Int.reduceLT, Int.reduceGE, Int.reduceGT, Int.reduceEq, Int.reduceNe, reduceCtorEq]
    repeat first | exact List.Sublist.refl _ | apply List.Sublist.cons
end Go.Proofs.YtppoacgeiooppaaGreat
