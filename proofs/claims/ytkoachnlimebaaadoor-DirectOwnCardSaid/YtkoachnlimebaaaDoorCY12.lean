/- The law DirectOwn: 'Run' whose row of outputs is taken over. -/
import Derived.Test.YtkoachnlimebaaaDoorCY10
import Derived.Test.YtkoachnlimebaaaDoorCY5
import Derived.Test.YtkoachnlimebaaaDoorCV1
import Derived.Test.YtkoachnlimebaaaDoorCAL50
import Derived.Test.YtkoachnlimebaaaDoorCU9
import Derived.Test.YtkoachnlimebaaaDoorCT62
set_option linter.unusedSimpArgs false
set_option linter.unusedVariables false
set_option maxRecDepth 20000
set_option maxHeartbeats 4000000
namespace Go.Proofs.YtkoachnlimebaaaDoor
open Go.AL

/-- What a run gives, without where its row lies. -/
def RunF (p : ProgG) (fuel : Int) (inputs : List Int) (how val : Int) (outs : List Int) (steps : Int) : Prop :=
  (runE p fuel inputs = 0 → ∃ f m, p.fs.head? = some f ∧ EndsG p.ds p.fs fuel.toNat (startG f inputs) m ∧ Goes p fuel.toNat m ∧ m.fin = some (how, val) ∧ outs = m.outs ∧ steps = m.steps) ∧
    (runE p fuel inputs ≠ 0 → how = 0 ∧ val = 0 ∧ outs = [] ∧ steps = 0)
theorem RunF.unique {p : ProgG} {fuel : Int} {inputs : List Int} {how val steps how' val' steps' : Int} {outs outs' : List Int} (h : RunF p fuel inputs how val outs steps) (h' : RunF p fuel inputs how' val' outs' steps') : how = how' ∧ val = val' ∧ outs = outs' ∧ steps = steps' := by
  by_cases e : runE p fuel inputs = 0
  · obtain ⟨f, m, a1, a2, _, a3, rfl, rfl⟩ := h.1 e
    obtain ⟨f', m', b1, b2, _, b3, rfl, rfl⟩ := h'.1 e
    obtain rfl : f = f' := by rw [a1] at b1; exact Option.some.inj b1
    obtain rfl := a2.unique b2
    rw [a3] at b3
    simp only [Option.some.injEq, Prod.mk.injEq] at b3
    exact ⟨b3.1, b3.2, rfl, rfl⟩
  · obtain ⟨rfl, rfl, rfl, rfl⟩ := h.2 e
    obtain ⟨rfl, rfl, rfl, rfl⟩ := h'.2 e
    exact ⟨rfl, rfl, rfl, rfl⟩
def wrapR (e : Int) (l : List AV) : AV := .tup [.agg l, .v (.int .i64 e)]
def OwnC (p : ProgG) (fuel : Int) (inputs : List Int) (pre xs post : List AV) : Prop :=
  ∃ how val outs steps, RunF p fuel inputs how val outs steps ∧ pre = [.v (.int .i64 how), .v (.int .i64 val)] ∧ xs = outs.map iv ∧ post = [.v (.int .i64 steps)]
theorem iv_oks (m : Mem) (l : List Int) : AV.oks m ((l.map iv).flatMap AV.cells) := by
  induction l with
  | nil => trivial
  | cons a r ih => exact ⟨trivial, ih⟩
def ORunR (p : ProgG) (fuel : Int) (inputs : List Int) (hp : Hp) (r : AV) (hp2 : Hp) : Prop :=
  ∃ how val outs steps hd, RunF p fuel inputs how val outs steps ∧ r = .tup [.agg [.v (.int .i64 how), .v (.int .i64 val), .v hd, .v (.int .i64 steps)], .v (.int .i64 (runE p fuel inputs))] ∧
    ((hd = .slice none 0 0 ∧ outs = [] ∧ hp2 = hp) ∨ ∃ (b cap : Nat) (rest : List AV), hd = .slice (some ⟨b, 0, none⟩) outs.length cap ∧ outs.length ≤ cap ∧ cap ≤ maxLen ∧ Fresh hp b ∧ hp2 = hp.setBlk b 3 (outs.map iv ++ rest))
theorem iv_cells (l : List Int) : (l.map iv).flatMap AV.cells = l.map iv := by
  induction l with
  | nil => rfl
  | cons a r ih => rw [List.map_cons, List.flatMap_cons, ih]; rfl
theorem orun_calls (p : ProgG) (hpf : PFit p) (fuel : Int) (hi : Value) (inputs : List Int) (hp : Hp) (hg : GOk hp) : ACalls Tryd.prog 7 [p.av, .v (.int .i64 fuel), intsAV hi inputs] hp (ORunR p fuel inputs hp) := by
  refine (acalls_ownA (e := 3) (sz := 1) (C := OwnC p fuel inputs) (wrapR (runE p fuel inputs)) (fun m l h => h.1) (fun m l h => ⟨h, trivial, trivial⟩) (fun l l' h => by simp only [wrapR, AV.val, AV.vals, h])
    rfl (fun base m w hh ho => AV.oks_mono (le_memOf hh) _ ho) ?_ ((run_calls p hpf fuel hi inputs (bareHp hp) hg).mono ?_)).mono ?_
  · rintro pre xs post ⟨how, val, outs, steps, -, rfl, rfl, rfl⟩ m
    exact ⟨⟨trivial, trivial, trivial⟩, iv_oks m outs, ⟨trivial, trivial⟩⟩
  · rintro r hp' ⟨h, how, val, outs, steps, rfl, rfl, hz, hnz⟩
    exact ⟨_, h, _, _, ⟨how, val, outs, steps, ⟨hz, hnz⟩, rfl, rfl, rfl⟩, rfl, List.mem_cons_self ..⟩
  · rintro r hp2 ⟨pre, hd, xs, post, ⟨how, val, outs, steps, hF, rfl, rfl, rfl⟩, rfl, hh⟩
    refine ⟨how, val, outs, steps, hd, hF, rfl, ?_⟩
    rw [iv_cells, List.length_map] at hh
    rcases hh with ⟨h1, h2, h3⟩ | hh
    · exact .inl ⟨h1, by simpa using h2, h3⟩
    · exact .inr hh
end Go.Proofs.YtkoachnlimebaaaDoor
/- The law DirectOwn walked. -/
set_option linter.unusedSimpArgs false
set_option linter.unusedVariables false
set_option maxRecDepth 20000
set_option maxHeartbeats 4000000
namespace Go.Proofs.YtkoachnlimebaaaDoor
open Go.AL

def ivs (l : List Int) : List AV := l.map fun n => .v (.int .i64 n)
theorem ivs_len (l : List Int) : (ivs l).length = l.length := by simp [ivs]
theorem ivs_drop (l : List Int) (rest : List AV) (i : Nat) (x : Int) (h : l[i]? = some x) : (ivs l ++ rest).drop i = .v (.int .i64 x) :: (ivs l ++ rest).drop (i + 1) := by
  have hi : i < l.length := (List.getElem?_eq_some_iff.1 h).1
  refine drop_at _ _ _ ?_
  rw [List.getElem?_append_left (by rw [ivs_len]; exact hi), ivs, List.getElem?_map, h]; rfl
theorem ivs_set (l : List Int) (rest : List AV) (i : Nat) (x : Int) (h : i < l.length) : List.take i (ivs l ++ rest) ++ [AV.v (.int .i64 x)] ++ List.drop (i + 1) (ivs l ++ rest) = ivs (l.set i x) ++ rest := by
  rw [List.take_append_of_le_length (by rw [ivs_len]; omega), List.drop_append_of_le_length (by rw [ivs_len]; omega), ← List.append_assoc]
  congr 1
  rw [List.set_eq_take_append_cons_drop, if_pos h]
  simp [ivs]
mutual
theorem nodes_bareT : ∀ t : TermG, nodesT (bareT t) = nodesT t
  | .mk _ _ _ _ _ args _ cls => by rw [bareT, nodesT, nodesT, nodes_bareA args, nodes_bareC cls]
theorem nodes_bareA : ∀ l : List TermG, nodesA (bareA l) = nodesA l
  | [] => rfl
  | a :: r => by rw [bareA, nodesA, nodesA, nodes_bareT a, nodes_bareA r]
theorem nodes_bareC : ∀ l : List ClauseG, nodesC (bareC l) = nodesC l
  | [] => rfl
  | .mk _ _ b :: r => by rw [bareC, nodesC, nodesC, bareB, nodesB, nodesB, nodes_bareT b, nodes_bareC r]
end
theorem bare_nodes {a b : TermG} (h : bareT a = bareT b) : nodesT a = nodesT b := by rw [← nodes_bareT a, h, nodes_bareT b]
theorem copy_nodes {p q : ProgG} (h : SameP p q) {m : Nat} (hp : ∀ f ∈ p.fs, nodesT f.body ≤ m) : ∀ f ∈ q.fs, nodesT f.body ≤ m := by
  intro f hf
  obtain ⟨k, hk⟩ := List.getElem?_of_mem hf
  obtain ⟨y, hy, hxy⟩ := map_at2 h.fs.symm hk
  simp only [FunG.bare, Prod.mk.injEq] at hxy
  rw [bare_nodes hxy.2.2.2]
  exact hp y (List.mem_of_getElem? hy)
def bumpL (k : Nat) (l : List Int) : List Int := (l.take k).map (fun n => w64 (n + 1)) ++ l.drop k
theorem bumpL_len (k : Nat) (l : List Int) : (bumpL k l).length = l.length := by simp [bumpL]; omega
theorem bumpL_at {k : Nat} {l : List Int} {x : Int} (h : l[k]? = some x) : (bumpL k l)[k]? = some x := by
  obtain ⟨hk, hx⟩ := List.getElem?_eq_some_iff.1 h
  rw [bumpL, List.getElem?_append_right (by simp; omega)]
  simp only [List.length_map, List.length_take, List.getElem?_drop]
  rw [show k + (k - min k l.length) = k by omega]; exact h
theorem bumpL_set {k : Nat} {l : List Int} {x : Int} (h : l[k]? = some x) : (bumpL k l).set k (w64 (x + 1)) = bumpL (k + 1) l := by
  obtain ⟨hk, hx⟩ := List.getElem?_eq_some_iff.1 h
  rw [bumpL, bumpL, List.set_append_right _ _ (by simp; omega), List.take_add_one, h, List.drop_eq_getElem_cons hk]
  simp only [List.length_map, List.length_take, show k - min k l.length = 0 by omega, List.set_cons_zero, Option.toList_some, List.map_append, List.map_cons, List.map_nil, List.append_assoc, List.singleton_append, List.cons_append, List.nil_append]
theorem bumpL_all (l : List Int) : bumpL l.length l = l.map fun n => w64 (n + 1) := by simp [bumpL]
theorem nums_ranged {p : ProgG} (hr : ∀ f ∈ p.fs, rgT f.body) {inputs : List Int} (hin : ∀ n ∈ inputs, I64 n) (fuel : Int) : NumsOf I64 p fuel inputs := by
  intro f m how val hf he hm
  obtain ⟨_, n, rfl⟩ := he
  have h0 : RM (startG f inputs) := by
    refine ⟨⟨hr f (List.mem_of_head? hf), rbind _ _ (fun b hb => ?_) .nil, .nil⟩, fun x hx => (by cases hx), fun a b hab => (by cases hab)⟩
    obtain ⟨x, hx, rfl⟩ := List.mem_map.1 hb
    exact .val _ (.int x (hin x hx))
  have h1 := riter (ds := p.ds) hr fuel.toNat n h0
  exact ⟨h1.2.1, fun h => h1.2.2 how val hm h⟩
theorem ProgG.small.rgs {p : ProgG} (h : p.small) : ∀ f ∈ p.fs, rgT f.body := fun f hf => (h.fs f hf).rg
theorem directOwn_calls (p : ProgG) (hsm : p.small) (hpf : PFit p) (fuel : Int) (hi : Value) (inputs : List Int) (hin : ∀ n ∈ inputs, I64 n) (hp : Hp) (hg : GOk hp) (ht : tabE ∈ hp.gl) : ACalls Tryd.prog 4 [p.av, .v (.int .i64 fuel), intsAV hi inputs] hp (fun r hp' => r = .v (.bool true) ∧ hp' = hp) := by
  refine acalls_of Tryd.func4 rfl (by decide +kernel) (awp_sound (mu := [51]) _ _ _ ?_)
  have cf := few_calls p 700 (by omega)
  have cr := fun hp hg => orun_calls p hpf fuel hi inputs hp hg
  have cv := fun hp hg ht => value_calls p hpf fuel hi inputs hp hg (itoaT _ ht) (fun _ => nums_ranged hsm.rgs hin fuel)
  simp only [ProgG.av, ProgG.cs, declsAV, funsAV, intsAV] at cf cr cv
  simp only [go_sem, Nat.reduceEqDiff, Nat.reduceAdd, Nat.reduceSub, Nat.reduceLT, Nat.reduceMul, Nat.reduceBEq, Nat.reduceLeDiff, ↓reduceIte, Int.reduceToNat, Nat.reduceGT, Int.reduceLE, Int.reduceLT, Int.reduceGE, Int.reduceGT, Int.reduceEq, Int.reduceNe, reduceCtorEq, ProgG.av, ProgG.cs, declsAV, funsAV, intsAV]
  intro q3
  refine callX_by (cf _) ?_
  rintro r hp1 ⟨rfl, hq1⟩
  rw [hq1]; clear hq1
  simp only [go_sem, Nat.reduceEqDiff, Nat.reduceAdd, Nat.reduceSub, Nat.reduceLT, Nat.reduceMul, Nat.reduceBEq, Nat.reduceLeDiff, ↓reduceIte, Int.reduceToNat, Nat.reduceGT, Int.reduceLE, Int.reduceLT, Int.reduceGE, Int.reduceGT, Int.reduceEq, Int.reduceNe, reduceCtorEq]
  refine brK_mk (fun h1 => ?_) (fun h1 => ?_) <;> simp only [go_sem, Nat.reduceEqDiff, Nat.reduceAdd, Nat.reduceSub, Nat.reduceLT, Nat.reduceMul, Nat.reduceBEq, Nat.reduceLeDiff, ↓reduceIte, Int.reduceToNat, Nat.reduceGT, Int.reduceLE, Int.reduceLT, Int.reduceGE, Int.reduceGT, Int.reduceEq, Int.reduceNe, reduceCtorEq, h1]
  rotate_left
  · refine callX_by (awake_calls hp hg) ?_
    rintro r hp1 ⟨rfl, hq1⟩
    rw [hq1]; clear hq1
    simp only [go_sem, Nat.reduceEqDiff, Nat.reduceAdd, Nat.reduceSub, Nat.reduceLT, Nat.reduceMul, Nat.reduceBEq, Nat.reduceLeDiff, ↓reduceIte, Int.reduceToNat, Nat.reduceGT, Int.reduceLE, Int.reduceLT, Int.reduceGE, Int.reduceGT, Int.reduceEq, Int.reduceNe, reduceCtorEq]
    exact ret_same ⟨rfl, rfl⟩
  refine brK_mk (fun h2 => ?_) (fun h2 => ?_) <;> simp only [go_sem, Nat.reduceEqDiff, Nat.reduceAdd, Nat.reduceSub, Nat.reduceLT, Nat.reduceMul, Nat.reduceBEq, Nat.reduceLeDiff, ↓reduceIte, Int.reduceToNat, Nat.reduceGT, Int.reduceLE, Int.reduceLT, Int.reduceGE, Int.reduceGT, Int.reduceEq, Int.reduceNe, reduceCtorEq, h2]
  · refine callX_by (awake_calls hp hg) ?_
    rintro r hp1 ⟨rfl, hq1⟩
    rw [hq1]; clear hq1
    simp only [go_sem, Nat.reduceEqDiff, Nat.reduceAdd, Nat.reduceSub, Nat.reduceLT, Nat.reduceMul, Nat.reduceBEq, Nat.reduceLeDiff, ↓reduceIte, Int.reduceToNat, Nat.reduceGT, Int.reduceLE, Int.reduceLT, Int.reduceGE, Int.reduceGT, Int.reduceEq, Int.reduceNe, reduceCtorEq]
    exact ret_same ⟨rfl, rfl⟩
  have hfw : p.fs.length ≤ 40 ∧ ∀ f ∈ p.fs, nodesT f.body ≤ 5000 := by
    rw [fewB, Bool.and_eq_true, Bool.and_eq_true] at h1
    obtain ⟨_, c2, c3⟩ := h1
    refine ⟨?_, fun f hf => ?_⟩
    · simp at c2; omega
    · have := of_decide_eq_true (List.all_eq_true.1 c3 f hf); omega
  have hin99 : inputs.length ≤ 99 := by have := of_decide_eq_false h2; omega
  have cp := fun hp => copyProg_calls p hsm hfw.1 hfw.2 hp
  simp only [ProgG.av, ProgG.cs, declsAV, funsAV] at cp
  refine callX_by (cp _) ?_
  rintro r hp1 ⟨⟨q, rfl, hq⟩, hq1⟩
  rw [hq1]; clear hq1 cp
  simp only [go_sem, Nat.reduceEqDiff, Nat.reduceAdd, Nat.reduceSub, Nat.reduceLT, Nat.reduceMul, Nat.reduceBEq, Nat.reduceLeDiff, ↓reduceIte, Int.reduceToNat, Nat.reduceGT, Int.reduceLE, Int.reduceLT, Int.reduceGE, Int.reduceGT, Int.reduceEq, Int.reduceNe, reduceCtorEq, ProgG.av, ProgG.cs, declsAV, funsAV]
  refine append0_by Tryd.k26 Tryd.s3 Tryd.y3 Tryd.z3 rfl (by decide) rfl (Cast.nil 1) rfl (Cast.refl _) (ones_int _) (by simp [maxLen]; omega) (by simp; omega) (by simp [go_sem]) (fun hv => ?_)
  simp only [go_sem, Nat.reduceEqDiff, Nat.reduceAdd, Nat.reduceSub, Nat.reduceLT, Nat.reduceMul, Nat.reduceBEq, Nat.reduceLeDiff, ↓reduceIte, Int.reduceToNat, Nat.reduceGT, Int.reduceLE, Int.reduceLT, Int.reduceGE, Int.reduceGT, Int.reduceEq, Int.reduceNe, reduceCtorEq]
  intro b7 hb7
  have hd7 := fun T cs => Hp.del_set _ _ T cs hb7.1
  simp only [hd7]
  have hle0 : hp.le (hp.setSp ((3, 1, hv) :: hp.sp)) := ⟨fun _ _ h => h, fun _ _ h => h, List.sublist_cons_self _ _, fun _ h => h⟩
  have hg0 : GOk (hp.setSp ((3, 1, hv) :: hp.sp)) := hg
  have ht0 : tabE ∈ (hp.setSp ((3, 1, hv) :: hp.sp)).gl := ht
  clear hd7 hb7
  generalize hp.setSp ((3, 1, hv) :: hp.sp) = H at hle0 hg0 ht0 ⊢
  refine callX_by (cr _ hg0) ?_
  rintro r hp2 ⟨how, val, outs, steps, hd, hF, rfl, hh⟩
  rcases hh with ⟨rfl, rfl, rfl⟩ | ⟨bo, cap, rest, rfl, hc1, hc2, hfb, rfl⟩
  rotate_left
  · have ho := outs.length
    simp only [go_sem, Nat.reduceEqDiff, Nat.reduceAdd, Nat.reduceSub, Nat.reduceLT, Nat.reduceMul, Nat.reduceBEq, Nat.reduceLeDiff, ↓reduceIte, Int.reduceToNat, Nat.reduceGT, Int.reduceLE, Int.reduceLT, Int.reduceGE, Int.reduceGT, Int.reduceEq, Int.reduceNe, reduceCtorEq]
    intro b9 hb9
    have hd9 := fun T cs => Hp.del_set _ _ T cs hb9.1
    simp only [hd9]
    clear hd9
    refine callX_by (cv _ hg0 ht0) ?_
    rintro r hp3 ⟨rfl, sv, rfl, -, -⟩
    simp only [go_sem, Nat.reduceEqDiff, Nat.reduceAdd, Nat.reduceSub, Nat.reduceLT, Nat.reduceMul, Nat.reduceBEq, Nat.reduceLeDiff, ↓reduceIte, Int.reduceToNat, Nat.reduceGT, Int.reduceLE, Int.reduceLT, Int.reduceGE, Int.reduceGT, Int.reduceEq, Int.reduceNe, reduceCtorEq]
    refine aw_loopX 123 (fun k : Nat => [(1, .v (.int .i64 fuel)), (2, .lst 1 hi (inputs.map iv)), (3, .ref q3 [.lst 3 p.hd (p.ds.map DeclG.av), .lst 9 p.hf (p.fs.map FunG.av)]), (7, .ref (.pointer (some ⟨b7, 0, none⟩)) [.lst 3 q.hd (q.ds.map DeclG.av), .lst 9 q.hf (q.fs.map FunG.av)]), (8, .lst 1 hv (inputs.map iv)), (9, .ref (.pointer (some ⟨b9, 0, none⟩)) [.v (.int .i64 how), .v (.int .i64 val), .v (.slice (some ⟨bo, 0, none⟩) outs.length cap), .v (.int .i64 steps)]), (10, .v (.int .i64 (runE p fuel inputs))), (41, .v (.int .i64 outs.length)), (42, .v (.int .i64 k))])
      (fun k => H.setBlk bo 3 (ivs (bumpL k outs) ++ rest)) (fun k => k ≤ outs.length) (fun k => outs.length - k) 0 (Nat.zero_le _) (le_mkSl rfl (Hp.le_refl _) (by simp [go_sem])) ?_
    intro k hk
    refine awp_sound (mu := [51]) _ _ _ ?_
    simp only [go_sem, Nat.reduceEqDiff, Nat.reduceAdd, Nat.reduceSub, Nat.reduceLT, Nat.reduceMul, Nat.reduceBEq, Nat.reduceLeDiff, ↓reduceIte, Int.reduceToNat, Nat.reduceGT, Int.reduceLE, Int.reduceLT, Int.reduceGE, Int.reduceGT, Int.reduceEq, Int.reduceNe, reduceCtorEq]
    refine brK_mk (fun h3 => ?_) (fun h3 => ?_) <;> simp only [go_sem, Nat.reduceEqDiff, Nat.reduceAdd, Nat.reduceSub, Nat.reduceLT, Nat.reduceMul, Nat.reduceBEq, Nat.reduceLeDiff, ↓reduceIte, Int.reduceToNat, Nat.reduceGT, Int.reduceLE, Int.reduceLT, Int.reduceGE, Int.reduceGT, Int.reduceEq, Int.reduceNe, reduceCtorEq, h3]
    · have hk' : k < outs.length := by simpa using h3
      obtain ⟨x, hx⟩ := someAt outs k hk'
      have hwk := upK k _ hk' (by omega)
      refine ⟨by omega, ?_⟩
      rw [ivs_drop _ rest k x (bumpL_at hx)]
      simp only [go_sem, Nat.reduceEqDiff, Nat.reduceAdd, Nat.reduceSub, Nat.reduceLT, Nat.reduceMul, Nat.reduceBEq, Nat.reduceLeDiff, ↓reduceIte, Int.reduceToNat, Nat.reduceGT, Int.reduceLE, Int.reduceLT, Int.reduceGE, Int.reduceGT, Int.reduceEq, Int.reduceNe, reduceCtorEq, hwk]
      exact ⟨by omega, by rw [List.length_append, ivs_len, bumpL_len]; omega, k + 1, by omega, by omega, le_mkSl rfl (by simp only [go_sem, Nat.reduceEqDiff, Nat.reduceAdd, Nat.reduceSub, Nat.reduceLT, Nat.reduceMul, Nat.reduceBEq, Nat.reduceLeDiff, ↓reduceIte, Int.reduceToNat, Nat.reduceGT, Int.reduceLE, Int.reduceLT, Int.reduceGE, Int.reduceGT, Int.reduceEq, Int.reduceNe, reduceCtorEq]; rw [show AV.v (.int .i64 (IntKind.i64.wrap (x + 1))) = AV.v (.int .i64 (w64 (x + 1))) from rfl, ivs_set _ rest k _ (by rw [bumpL_len]; omega), bumpL_set hx]; exact Hp.le_refl _) (by simp [go_sem, hwk])⟩
    · have hgb : GOk (H.setBlk bo 3 (ivs (bumpL k outs) ++ rest)) := hg0
      have e0 : k = outs.length := by have := of_decide_eq_false h3; omega
      subst e0
      rw [bumpL_all]
      have cr2 := run_calls p hpf fuel hi inputs (H.setBlk bo 3 (ivs (outs.map fun n => w64 (n + 1)) ++ rest)) hg0
      simp only [ProgG.av, ProgG.cs, declsAV, funsAV, intsAV] at cr2
      refine callX_by cr2 ?_
      rintro r hp4 ⟨h2', how', val', outs', steps', rfl, rfl, hz, hnz⟩
      obtain ⟨rfl, rfl, rfl, rfl⟩ := hF.unique ⟨hz, hnz⟩
      simp only [go_sem, Nat.reduceEqDiff, Nat.reduceAdd, Nat.reduceSub, Nat.reduceLT, Nat.reduceMul, Nat.reduceBEq, Nat.reduceLeDiff, ↓reduceIte, Int.reduceToNat, Nat.reduceGT, Int.reduceLE, Int.reduceLT, Int.reduceGE, Int.reduceGT, Int.reduceEq, Int.reduceNe, reduceCtorEq]
      intro b12 hb12
      have hd12 := fun T cs => Hp.del_set _ _ T cs hb12.1
      simp only [hd12]
      clear hd12 hb12
      have hle1 : hp.le ((H.setBlk bo 3 (ivs (outs.map fun n => w64 (n + 1)) ++ rest)).setSp ((3, 1, h2') :: H.sp)) := by
        refine Hp.le_trans hle0 ⟨fun j u hj => ?_, fun _ _ h => h, List.sublist_cons_self _ _, fun _ h => h⟩
        have h1 : j ≠ bo := by rintro rfl; rw [hfb.1] at hj; cases hj
        simp [Hp.setBlk, Hp.setSp, h1, hj]
      have hg1 : GOk ((H.setBlk bo 3 (ivs (outs.map fun n => w64 (n + 1)) ++ rest)).setSp ((3, 1, h2') :: H.sp)) := hg0
      have hbk : ((H.setBlk bo 3 (ivs (outs.map fun n => w64 (n + 1)) ++ rest)).setSp ((3, 1, h2') :: H.sp)).blk bo = some (3, ivs (outs.map fun n => w64 (n + 1)) ++ rest) := by simp [Hp.setBlk, Hp.setSp]
      generalize (H.setBlk bo 3 (ivs (outs.map fun n => w64 (n + 1)) ++ rest)).setSp ((3, 1, h2') :: H.sp) = K at hle1 hg1 hbk ⊢
      refine aw_loopX 123 (fun k : Nat => [(1, .v (.int .i64 fuel)), (2, .lst 1 hi (inputs.map iv)), (3, .ref q3 [.lst 3 p.hd (p.ds.map DeclG.av), .lst 9 p.hf (p.fs.map FunG.av)]), (7, .ref (.pointer (some ⟨b7, 0, none⟩)) [.lst 3 q.hd (q.ds.map DeclG.av), .lst 9 q.hf (q.fs.map FunG.av)]), (8, .lst 1 hv (inputs.map iv)), (9, .ref (.pointer (some ⟨b9, 0, none⟩)) [.v (.int .i64 how), .v (.int .i64 val), .v (.slice (some ⟨bo, 0, none⟩) outs.length cap), .v (.int .i64 steps)]), (12, .ref (.pointer (some ⟨b12, 0, none⟩)) [.v (.int .i64 how), .v (.int .i64 val), .lst 1 h2' (outs.map iv), .v (.int .i64 steps)]), (95, .v (.int .i64 outs.length)), (96, .v (.int .i64 k))])
        (fun _ => K) (fun k => k ≤ outs.length) (fun k => outs.length - k) 0 (Nat.zero_le _) (le_mkSl rfl (Hp.le_refl _) (by simp [go_sem])) ?_
      intro k hk
      refine awp_sound (mu := [51]) _ _ _ ?_
      simp only [go_sem, Nat.reduceEqDiff, Nat.reduceAdd, Nat.reduceSub, Nat.reduceLT, Nat.reduceMul, Nat.reduceBEq, Nat.reduceLeDiff, ↓reduceIte, Int.reduceToNat, Nat.reduceGT, Int.reduceLE, Int.reduceLT, Int.reduceGE, Int.reduceGT, Int.reduceEq, Int.reduceNe, reduceCtorEq]
      refine brK_mk (fun h4 => ?_) (fun h4 => ?_) <;> simp only [go_sem, Nat.reduceEqDiff, Nat.reduceAdd, Nat.reduceSub, Nat.reduceLT, Nat.reduceMul, Nat.reduceBEq, Nat.reduceLeDiff, ↓reduceIte, Int.reduceToNat, Nat.reduceGT, Int.reduceLE, Int.reduceLT, Int.reduceGE, Int.reduceGT, Int.reduceEq, Int.reduceNe, reduceCtorEq, h4]
      · have hk' : k < outs.length := by simpa using h4
        obtain ⟨x, hx⟩ := someAt outs k hk'
        have hwk := upK k _ hk' (by omega)
        refine draw_by (mu := [51]) (fun h => h.blk bo = some (3, ivs (outs.map fun n => w64 (n + 1)) ++ rest)) (.take 0 (.take 1 (.take 2 (.take 3 (.take 4 (.take 5 (.take 6 (.take 7 (.take 8 (.take 9 (.take 10 (.take 11 (.done))))))))))))) (by decide +kernel) hbk (by decide +kernel) (by decide +kernel) ?_
        simp only [go_sem, Nat.reduceEqDiff, Nat.reduceAdd, Nat.reduceSub, Nat.reduceLT, Nat.reduceMul, Nat.reduceBEq, Nat.reduceLeDiff, ↓reduceIte, Int.reduceToNat, Nat.reduceGT, Int.reduceLE, Int.reduceLT, Int.reduceGE, Int.reduceGT, Int.reduceEq, Int.reduceNe, reduceCtorEq, hbk, hwk, mapAt iv _ _ _ hx, iv]
        refine ⟨by omega, fun _ _ => by omega, ?_⟩
        have hdr := ivs_drop (outs.map fun n => w64 (n + 1)) rest k (w64 (x + 1)) (by rw [List.getElem?_map, hx]; rfl)
        rw [show w64 (x + 1) = IntKind.i64.wrap (x + 1) from rfl] at hdr
        rw [hdr]
        simp only [go_sem, Nat.reduceEqDiff, Nat.reduceAdd, Nat.reduceSub, Nat.reduceLT, Nat.reduceMul, Nat.reduceBEq, Nat.reduceLeDiff, ↓reduceIte, Int.reduceToNat, Nat.reduceGT, Int.reduceLE, Int.reduceLT, Int.reduceGE, Int.reduceGT, Int.reduceEq, Int.reduceNe, reduceCtorEq, hwk]
        refine ⟨fun hp e => ?_, ?_⟩
        · rw [e]; simp only [go_sem, Nat.reduceEqDiff, Nat.reduceAdd, Nat.reduceSub, Nat.reduceLT, Nat.reduceMul, Nat.reduceBEq, Nat.reduceLeDiff, ↓reduceIte, Int.reduceToNat, Nat.reduceGT, Int.reduceLE, Int.reduceLT, Int.reduceGE, Int.reduceGT, Int.reduceEq, Int.reduceNe, reduceCtorEq, hdr]
        exact ⟨k + 1, by omega, by omega, le_mkSl rfl (Hp.le_refl _) (by simp [go_sem, hwk])⟩
      · have c1 := fun hp => sameProg_calls q p ⟨hq.ds.symm, hq.fs.symm⟩ (by have := congrArg List.length hq.fs; simp at this; omega) (copy_nodes hq hfw.2) hp
        have c2 := fun hp => sameInts_calls hv hi inputs inputs hp
        simp only [ProgG.av, ProgG.cs, declsAV, funsAV, intsAV] at c1 c2
        refine callX_by (c1 _) ?_
        rintro r hp5 ⟨rfl, e5⟩
        subst e5
        simp only [go_sem, Nat.reduceEqDiff, Nat.reduceAdd, Nat.reduceSub, Nat.reduceLT, Nat.reduceMul, Nat.reduceBEq, Nat.reduceLeDiff, ↓reduceIte, Int.reduceToNat, Nat.reduceGT, Int.reduceLE, Int.reduceLT, Int.reduceGE, Int.reduceGT, Int.reduceEq, Int.reduceNe, reduceCtorEq]
        refine callX_by (c2 _) ?_
        rintro r hp5 ⟨rfl, e5⟩
        subst e5
        simp only [go_sem, Nat.reduceEqDiff, Nat.reduceAdd, Nat.reduceSub, Nat.reduceLT, Nat.reduceMul, Nat.reduceBEq, Nat.reduceLeDiff, ↓reduceIte, Int.reduceToNat, Nat.reduceGT, Int.reduceLE, Int.reduceLT, Int.reduceGE, Int.reduceGT, Int.reduceEq, Int.reduceNe, reduceCtorEq]
        refine callX_by (awake_calls _ hg1) ?_
        rintro r hp5 ⟨rfl, e5⟩
        subst e5
        simp only [go_sem, Nat.reduceEqDiff, Nat.reduceAdd, Nat.reduceSub, Nat.reduceLT, Nat.reduceMul, Nat.reduceBEq, Nat.reduceLeDiff, ↓reduceIte, Int.reduceToNat, Nat.reduceGT, Int.reduceLE, Int.reduceLT, Int.reduceGE, Int.reduceGT, Int.reduceEq, Int.reduceNe, reduceCtorEq]
        exact ret_le (hp' := hp) hle1 ⟨rfl, rfl⟩
  · simp only [go_sem, Nat.reduceEqDiff, Nat.reduceAdd, Nat.reduceSub, Nat.reduceLT, Nat.reduceMul, Nat.reduceBEq, Nat.reduceLeDiff, ↓reduceIte, Int.reduceToNat, Nat.reduceGT, Int.reduceLE, Int.reduceLT, Int.reduceGE, Int.reduceGT, Int.reduceEq, Int.reduceNe, reduceCtorEq]
    intro b9 hb9
    have hd9 := fun T cs => Hp.del_set _ _ T cs hb9.1
    simp only [hd9]
    clear hd9
    refine callX_by (cv _ hg0 ht0) ?_
    rintro r hp3 ⟨rfl, sv, rfl, -, -⟩
    simp only [go_sem, Nat.reduceEqDiff, Nat.reduceAdd, Nat.reduceSub, Nat.reduceLT, Nat.reduceMul, Nat.reduceBEq, Nat.reduceLeDiff, ↓reduceIte, Int.reduceToNat, Nat.reduceGT, Int.reduceLE, Int.reduceLT, Int.reduceGE, Int.reduceGT, Int.reduceEq, Int.reduceNe, reduceCtorEq]
    refine aw_loopX 123 (fun _ : Unit => [(1, .v (.int .i64 fuel)), (2, .lst 1 hi (inputs.map iv)), (3, .ref q3 [.lst 3 p.hd (p.ds.map DeclG.av), .lst 9 p.hf (p.fs.map FunG.av)]), (7, .ref (.pointer (some ⟨b7, 0, none⟩)) [.lst 3 q.hd (q.ds.map DeclG.av), .lst 9 q.hf (q.fs.map FunG.av)]), (8, .lst 1 hv (inputs.map iv)), (9, .ref (.pointer (some ⟨b9, 0, none⟩)) [.v (.int .i64 how), .v (.int .i64 val), .v (.slice none 0 0), .v (.int .i64 steps)]), (10, .v (.int .i64 (runE p fuel inputs))), (41, .v (.int .i64 0)), (42, .v (.int .i64 0))])
      (fun _ => hp3) (fun _ => True) (fun _ => 0) () trivial (le_mkSl rfl (Hp.le_refl _) (by simp [go_sem])) ?_
    intro k _
    refine awp_sound (mu := [51]) _ _ _ ?_
    simp only [go_sem, Nat.reduceEqDiff, Nat.reduceAdd, Nat.reduceSub, Nat.reduceLT, Nat.reduceMul, Nat.reduceBEq, Nat.reduceLeDiff, ↓reduceIte, Int.reduceToNat, Nat.reduceGT, Int.reduceLE, Int.reduceLT, Int.reduceGE, Int.reduceGT, Int.reduceEq, Int.reduceNe, reduceCtorEq]
    have cr2 := run_calls p hpf fuel hi inputs hp3 hg0
    simp only [ProgG.av, ProgG.cs, declsAV, funsAV, intsAV] at cr2
    refine callX_by cr2 ?_
    rintro r hp4 ⟨h2', how', val', outs', steps', rfl, rfl, hz, hnz⟩
    obtain ⟨rfl, rfl, rfl, rfl⟩ := hF.unique ⟨hz, hnz⟩
    simp only [go_sem, Nat.reduceEqDiff, Nat.reduceAdd, Nat.reduceSub, Nat.reduceLT, Nat.reduceMul, Nat.reduceBEq, Nat.reduceLeDiff, ↓reduceIte, Int.reduceToNat, Nat.reduceGT, Int.reduceLE, Int.reduceLT, Int.reduceGE, Int.reduceGT, Int.reduceEq, Int.reduceNe, reduceCtorEq]
    intro b12 hb12
    have hd12 := fun T cs => Hp.del_set _ _ T cs hb12.1
    simp only [hd12]
    clear hd12 hb12
    have hle1 : hp.le (hp3.setSp ((3, 1, h2') :: hp3.sp)) := Hp.le_trans hle0 ⟨fun _ _ h => h, fun _ _ h => h, List.sublist_cons_self _ _, fun _ h => h⟩
    have hg1 : GOk (hp3.setSp ((3, 1, h2') :: hp3.sp)) := hg0
    generalize hp3.setSp ((3, 1, h2') :: hp3.sp) = K at hle1 hg1 ⊢
    refine aw_loopX 123 (fun _ : Unit => [(1, .v (.int .i64 fuel)), (2, .lst 1 hi (inputs.map iv)), (3, .ref q3 [.lst 3 p.hd (p.ds.map DeclG.av), .lst 9 p.hf (p.fs.map FunG.av)]), (7, .ref (.pointer (some ⟨b7, 0, none⟩)) [.lst 3 q.hd (q.ds.map DeclG.av), .lst 9 q.hf (q.fs.map FunG.av)]), (8, .lst 1 hv (inputs.map iv)), (9, .ref (.pointer (some ⟨b9, 0, none⟩)) [.v (.int .i64 how), .v (.int .i64 val), .v (.slice none 0 0), .v (.int .i64 steps)]), (12, .ref (.pointer (some ⟨b12, 0, none⟩)) [.v (.int .i64 how), .v (.int .i64 val), .lst 1 h2' [], .v (.int .i64 steps)]), (95, .v (.int .i64 0)), (96, .v (.int .i64 0))])
      (fun _ => K) (fun _ => True) (fun _ => 0) () trivial (le_mkSl rfl (Hp.le_refl _) (by simp [go_sem])) ?_
    intro k _
    refine awp_sound (mu := [51]) _ _ _ ?_
    simp only [go_sem, Nat.reduceEqDiff, Nat.reduceAdd, Nat.reduceSub, Nat.reduceLT, Nat.reduceMul, Nat.reduceBEq, Nat.reduceLeDiff, ↓reduceIte, Int.reduceToNat, Nat.reduceGT, Int.reduceLE, Int.reduceLT, Int.reduceGE, Int.reduceGT, Int.reduceEq, Int.reduceNe, reduceCtorEq]
    have c1 := fun hp => sameProg_calls q p ⟨hq.ds.symm, hq.fs.symm⟩ (by have := congrArg List.length hq.fs; simp at this; omega) (copy_nodes hq hfw.2) hp
    have c2 := fun hp => sameInts_calls hv hi inputs inputs hp
    simp only [ProgG.av, ProgG.cs, declsAV, funsAV, intsAV] at c1 c2
    refine callX_by (c1 _) ?_
    rintro r hp5 ⟨rfl, e5⟩
    subst e5
    simp only [go_sem, Nat.reduceEqDiff, Nat.reduceAdd, Nat.reduceSub, Nat.reduceLT, Nat.reduceMul, Nat.reduceBEq, Nat.reduceLeDiff, ↓reduceIte, Int.reduceToNat, Nat.reduceGT, Int.reduceLE, Int.reduceLT, Int.reduceGE, Int.reduceGT, Int.reduceEq, Int.reduceNe, reduceCtorEq]
    refine callX_by (c2 _) ?_
    rintro r hp5 ⟨rfl, e5⟩
    subst e5
    simp only [go_sem, Nat.reduceEqDiff, Nat.reduceAdd, Nat.reduceSub, Nat.reduceLT, Nat.reduceMul, Nat.reduceBEq, Nat.reduceLeDiff, ↓reduceIte, Int.reduceToNat, Nat.reduceGT, Int.reduceLE, Int.reduceLT, Int.reduceGE, Int.reduceGT, Int.reduceEq, Int.reduceNe, reduceCtorEq]
    refine callX_by (awake_calls _ hg1) ?_
    rintro r hp5 ⟨rfl, e5⟩
    subst e5
    simp only [go_sem, Nat.reduceEqDiff, Nat.reduceAdd, Nat.reduceSub, Nat.reduceLT, Nat.reduceMul, Nat.reduceBEq, Nat.reduceLeDiff, ↓reduceIte, Int.reduceToNat, Nat.reduceGT, Int.reduceLE, Int.reduceLT, Int.reduceGE, Int.reduceGT, Int.reduceEq, Int.reduceNe, reduceCtorEq]
    exact ret_le (hp' := hp) hle1 ⟨rfl, rfl⟩
end Go.Proofs.YtkoachnlimebaaaDoor
